/-
  Texts of our own, in one file.
-/
import Derived.Test.YtnfalbdnkgaelaaDoorGrpC
import Derived.Shelf.SlIter.Nil
import Derived.Shelf.SortM.Plain
import Derived.Shelf.SortM.SortNone
section
set_option linter.unusedVariables false
set_option linter.unusedSimpArgs false
set_option maxRecDepth 20000
set_option maxHeartbeats 1000000
namespace Go.Proofs.YtnfalbdnkgaelaaDoor
open Go Go.Ab
theorem order_ok (st : Bool) (v0 v1 : Nat) (km sm : List Nm) (nd : Nm → List Nm) (hkm : km.Nodup) (hsm : sm.Nodup) (hsub : ∀ n ∈ sm, n ∈ km) (hcl : ∀ n ∈ sm, ∀ k ∈ nd n, k ∈ sm) (hlk : km.length ≤ 1000) (hln : ∀ n, (nd n).length ≤ 1048576) :
    CallOk cx 35 [.map 0 v0, .map 1 v1] [(v0, mapBx km (ndV st nd)), (v1, mapBx sm fun _ => .bool true)]
      (fun e s => e = .ret (.tup [.sl true false 1 (texts (ordG nd sm sm.length [])), .bool (decide ((ordG nd sm sm.length []).length = sm.length))]) ∧ s = [(v0, mapBx km (ndV st nd)), (v1, mapBx sm fun _ => .bool true)]) :=
  callOk_introT (fun a w => Tryd.call35 a w) Tryd.func35 rfl Tryd.ntmps35 rfl fun B => by
    refine pa [.f (.map 2 0) (fun _ => [(v0, mapBx km (ndV st nd)), (v1, mapBx sm fun _ => .bool true), (0, some (.map [] (some ([], 0))))]), .f (.map 3 0) (fun _ => [(v0, mapBx km (ndV st nd)), (v1, mapBx sm fun _ => .bool true), (0, some (.map [] (some ([], 0)))), (0, some (.map [] (some ([], 0))))])] rfl ?_ ?_
    · (repeat' with_reducible apply AllP_cons) <;> try exact aC
      · exact OpSpec.mapN rfl trivial
      · exact OpSpec.mapN rfl trivial
    refine S_unstamp (id := 2) rfl ?_ ⟨.skip, _, .inr ⟨_, _, _, rfl⟩⟩
    refine S_unstamp (id := 3) rfl ?_ ⟨.skip, _, .inr ⟨_, _, _, rfl⟩⟩
    refine S_ghosts ⟨false, none⟩ 1 ⟨.skip, _, .inr ⟨_, _, _, rfl⟩⟩ ?_
    refine S_wkC 4 0 (.ms 5 0 0 0 1 false) rfl rfl (fun r w v h => ?_) rfl ⟨.skip, _, .inr ⟨_, _, _, rfl⟩⟩ ?_
    · have h : VRel r w v (.sl true true 1 []) := h
      cases h with
      | sl0 hf => rw [hf rfl]; exact .ms0
      | sl hn hc0 hf hI hS hsz f hc hv => have hn : _ = 0 := hn; subst hn; rw [hf rfl]; exact .ms0
    refine S_stamp (id := 1) rfl (fun bs c0 hbl hbn hbc => ?_) ⟨.skip, _, .inr ⟨_, _, _, rfl⟩⟩
    have hbl : bs.length = sm.length := by rw [hbl]; unfold mapF; rw [List.length_map]
    refine pa [.f (.ptr 6 0 0) (fun _ => orG st v0 v1 km sm nd (some (bs, c0)) none (0, some (.miter 1 v1 c0 [] c0)) (mapBx [] (wtV fun _ => 0)) (mapBx [] (usV km fun _ => [])) 0 [] [])] rfl ?_ ?_
    · (repeat' with_reducible apply AllP_cons) <;> try exact aC
      · exact OpSpec.mapN (C := [v1 = v1]) rfl ⟨rfl, trivial⟩
    refine S_ghosts ⟨false, none⟩ km.length ⟨_, _, .inl rfl⟩ ?_
    refine S_heap (orH st v0 v1 km sm nd (some (bs, c0)) none (0, some (.miter 1 v1 c0 [] c0)) ⟨[], fun _ => 0, [], fun _ => [], 0, []⟩) ?_ ?_
    · unfold orH
      show orG st v0 v1 km sm nd (some (bs, c0)) none _ _ _ 0 [] (List.replicate km.length _) = _
      have : usB km (fun _ => []) = List.replicate km.length (0, some (.cells [] ⟨false, none⟩)) := by
        unfold usB usE
        exact List.map_const'
      rw [← this]
    obtain ⟨fn, hfn⟩ : ∃ fn : Nat → Nm, ∀ bb, fn bb = sm.getD (bs.idxOf bb) [] := ⟨fun bb => sm.getD (bs.idxOf bb) [], fun _ => rfl⟩
    have hnat : ∀ sn : List Nat, sn.Nodup → (∀ x ∈ sn, x ∈ bs) → sn.length ≤ bs.length := fun sn h1 h2 => List.Nodup.length_le_of_subset h1 h2
    refine S_while (α := List Nat × OrS) (fun s => [(0, .map 0 v0), (1, .map 1 v1), (6, .map 2 0), (7, .map 3 0), (8, .ptr 4 0 0), (21, .ptr 6 0 0)]) (fun s => orH st v0 v1 km sm nd (some (bs, c0)) none (0, some (.miter 1 v1 c0 s.1 c0)) s.2)
      (fun s => s.1.Nodup ∧ (∀ x ∈ s.1, x ∈ bs) ∧ OrOk km s.2 ∧ (∀ n, s.2.W n = if n ∈ s.1.map fn then (nd n).length else 0) ∧ (∀ k, s.2.u k = usO nd (s.1.map fn) k) ∧ s.2.l.Perm ((s.1.map fn).filter fun n => decide (nd n = [])))
      (fun s => bs.length - s.1.length) ([], ⟨[], fun _ => 0, [], fun _ => [], 0, []⟩) ⟨.nil, (fun x h => by cases h), ⟨.nil, fun _ _ => rfl, .nil, fun _ _ => rfl, fun i h1 h2 => by cases h2⟩, (fun n => rfl), (fun k => rfl), .refl _⟩ (.cons rfl (.cons rfl (.cons rfl (.cons rfl (.cons rfl (.cons rfl (.nil _))))))) rfl ?_
    rintro ⟨sn, x⟩ ⟨hs1, hs2, hok, hW, hu, hl⟩
    simp only at hs1 hs2 hok hW hu hl
    refine pas [] rfl ?_ ?_
    · (repeat' with_reducible apply AllP_cons) <;> try exact aC
    refine S_mnext (id := 6) (ver := 0) (mid := 1) (mver := v1) (since := c0) (last := c0) (c := c0) (seen := sn) (bs := bs) (kvs := mapF sm fun _ => .bool true) rfl rfl rfl rfl (fun x hx => hbc x hx) (Nat.le_refl _) rfl rfl ?_ ?_
    · intro i bb hi2 hb hns
      have hi3 : i < sm.length := by simpa [mapF] using hi2
      have hkv : (mapF sm fun _ => AV.bool true)[i]? = some (.str sm[i], .bool true) := by simp [mapF, List.getElem?_eq_getElem hi3]
      have hbm : bb ∈ bs := List.mem_of_getElem? hb
      have hn2 : (sn ++ [bb]).Nodup := List.nodup_append.2 ⟨hs1, by simp, fun x hx y hy => by simp at hy; subst hy; exact fun e => hns (e ▸ hx)⟩
      have hm2 : ∀ x ∈ sn ++ [bb], x ∈ bs := fun x hx => by
        rcases List.mem_append.1 hx with hx | hx
        · exact hs2 x hx
        · simp at hx; subst hx; exact hbm
      have hlen2 := hnat _ hn2 hm2
      rw [List.length_append] at hlen2
      have hlen2 : sn.length + 1 ≤ bs.length := hlen2
      have hib : i < bs.length := by omega
      have hidx : bs.idxOf bb = i := by
        have h1 : bs.idxOf bb < bs.length := List.idxOf_lt_length_of_mem hbm
        have h2 : bs[bs.idxOf bb] = bb := List.getElem_idxOf h1
        rw [List.getElem?_eq_getElem hib] at hb
        exact (List.getElem_inj (h₀ := h1) (h₁ := hib) hbn).1 (h2.trans (Option.some.inj hb).symm)
      have hfb : fn bb = sm[i] := by rw [hfn, hidx]; simp [List.getD, List.getElem?_eq_getElem hi3]
      have hmap : (sn ++ [bb]).map fn = sn.map fn ++ [sm[i]] := by rw [List.map_append, ← hfb]; rfl
      have hnsm : sm[i] ∈ sm := List.getElem_mem hi3
      have hnnew : sm[i] ∉ sn.map fn := fun h => by
        obtain ⟨b2, q1, q2⟩ := List.mem_map.1 h
        have q3 := hs2 b2 q1
        have h1 : bs.idxOf b2 < bs.length := List.idxOf_lt_length_of_mem q3
        have h2 : bs[bs.idxOf b2] = b2 := List.getElem_idxOf h1
        rw [hfn] at q2
        have q4 : sm[bs.idxOf b2]'(by omega) = sm[i] := by rw [← q2]; simp [List.getD, List.getElem?_eq_getElem (show bs.idxOf b2 < sm.length by omega)]
        have q5 := (List.getElem_inj hsm).1 q4
        rw [← hidx] at q5
        have : b2 = bb := by
          have h3 : bs[bs.idxOf bb]'(List.idxOf_lt_length_of_mem hbm) = bb := List.getElem_idxOf _
          rw [← h2, ← h3]; congr 1
        exact hns (this ▸ q1)
      generalize hn : sm[i] = nn at *
      have hnk := hsub nn hnsm
      refine pas [.b true, .v (.tup [.str nn, .bool true]), .v (.sl st false 1 (texts (nd nn)))] rfl ?_ ?_
      · (repeat' with_reducible apply AllP_cons) <;> try exact aC
        · exact OpSpec.entryG (id := 6) (ver := 0) (mid := 1) (mver := v1) (since := c0) (c := c0) (i := i) (b := bb) (seen := sn) (bs := bs) rfl rfl rfl rfl hb hkv
        · exact OpSpec.mget (id := 0) (ver := v0) (ks := km) (val := ndV st nd) (s := nn) (z := .nils) rfl Tryd.underlying57 rfl rfl rfl rfl rfl (by rw [if_pos hnk]; rfl)
      have hxW : x.W nn = 0 := by rw [hW, if_neg hnnew]
      refine S_while (α := Nat × OrS) (fun s => [(0, .map 0 v0), (1, .map 1 v1), (6, .map 2 0), (7, .map 3 0), (8, .ptr 4 0 0), (21, .ptr 6 0 0), (9, .str nn), (28, .sl st false 1 (texts (nd nn))), (29, .int .i64 ((texts (nd nn)).length : Nat)), (30, .int .i64 (s.1 : Nat))])
        (fun s => orH st v0 v1 km sm nd (some (bs, c0)) none (0, some (.miter 1 v1 c0 (sn ++ [bb]) c0)) s.2)
        (fun s => s.1 ≤ (nd nn).length ∧ OrOk km s.2 ∧ (∀ n, s.2.W n = if n = nn then s.1 else x.W n) ∧ (∀ k, s.2.u k = x.u k ++ List.replicate (((nd nn).take s.1).count k) nn) ∧ s.2.l = x.l)
        (fun s => (nd nn).length - s.1) (0, x) ⟨Nat.zero_le _, hok, (fun n => by show x.W n = if n = nn then 0 else x.W n; split; (rename_i e; rw [e, hxW]); rfl), (fun k => by show x.u k = x.u k ++ List.replicate 0 nn; rw [List.replicate_zero, List.append_nil]), rfl⟩
        (.cons rfl (.cons rfl (.cons rfl (.cons rfl (.cons rfl (.cons rfl (.cons rfl (.cons rfl (.cons rfl (.cons rfl (.nil _))))))))))) rfl ?_
      rintro ⟨j, y⟩ ⟨hj, hyk, hyW, hyu, hyl⟩
      simp only at hj hyk hyW hyu hyl
      have hlnn := hln nn
      have htl : (texts (nd nn)).length = (nd nn).length := by unfold texts; simp
      by_cases hjl : j < (nd nn).length
      · have c1 : decide ((j : Int) < (((texts (nd nn)).length : Nat) : Int)) = true := decide_eq_true (by omega)
        have c2 : (texts (nd nn))[(j : Int).toNat]? = some (.str (nd nn)[j]) := by rw [Int.toNat_natCast]; simp [texts, List.getElem?_eq_getElem hjl]
        have hkm0 : (nd nn)[j] ∈ km := hsub _ (hcl nn hnsm _ (List.getElem_mem hjl))
        have htk : ∀ k, ((nd nn).take (j + 1)).count k = ((nd nn).take j).count k + if (nd nn)[j] = k then 1 else 0 := fun k => by
          rw [List.take_succ_eq_append_getElem hjl, List.count_append]
          congr 1
          rw [List.count_singleton]
          by_cases e : (nd nn)[j] = k
          · rw [if_pos e, if_pos (by simpa using e)]
          · rw [if_neg e, if_neg (by simpa using e)]
        generalize hk0 : (nd nn)[j] = k0 at *
        have hulen : (y.u k0).length ≤ 2000000000 := by
          rw [hyu, hu, List.length_append, List.length_replicate]
          have h1 := usO_len hln k0 (sn.map fn)
          rw [List.length_map] at h1
          have h2 : ((nd nn).take j).count k0 ≤ ((nd nn).take j).length := List.count_le_length
          rw [List.length_take] at h2
          have : sn.length ≤ 1000 := by
            have h3 : sm.length ≤ km.length := List.Nodup.length_le_of_subset hsm hsub
            omega
          have : sn.length * 1048576 ≤ 1000 * 1048576 := Nat.mul_le_mul_right _ this
          omega
        have hw1 : IntKind.i64.wrap (((y.W nn : Nat) : Int) + 1) = ((j + 1 : Nat) : Int) := by rw [hyW, if_pos rfl]; exact w64 (by omega) (by omega)
        obtain ⟨y1, hy1⟩ : ∃ y1 : OrS, y1 = { y with kw := addK y.kw nn, W := updN y.W nn (j + 1) } := ⟨_, rfl⟩
        obtain ⟨y2, hy2⟩ : ∃ y2 : OrS, y2 = { y1 with ku := addK y1.ku k0, u := updN y1.u k0 (y1.u k0 ++ [nn]) } := ⟨_, rfl⟩
        have hy1k : OrOk km y1 := by rw [hy1]; exact hyk.put nn (j + 1)
        have hy1u : y1.u = y.u := by rw [hy1]
        refine pas [.b true, .v (.str k0), .v (.int .i64 (y.W nn : Nat)), .f (.tup []) (fun _ => orH st v0 v1 km sm nd (some (bs, c0)) none (0, some (.miter 1 v1 c0 (sn ++ [bb]) c0)) y1), .v (.ms (7 + km.idxOf k0) (y1.u k0).length 0 (y1.u k0).length 1 false), .s] rfl ?_ ?_
        · (repeat' with_reducible apply AllP_cons) <;> try exact aC
          · refine OpSpec.mget (id := 2) (ver := 0) (ks := y.kw) (val := wtV y.W) (s := nn) (z := .int .i64 0) rfl Tryd.underlying69 rfl rfl rfl rfl rfl ?_
            show (if nn ∈ y.kw then wtV y.W nn else .int .i64 0) = _
            split
            · rfl
            · rename_i hnk
              rw [hyk.W0 nn hnk]; rfl
          · refine OpSpec.mput (id := 2) (ver := 0) (ks := y.kw) (val := wtV y.W) (s := nn) (v := .int .i64 ((j + 1 : Nat) : Int)) rfl Tryd.underlying69 rfl rfl rfl (by show AV.int .i64 (IntKind.i64.wrap (((y.W nn : Nat) : Int) + 1)) = _; rw [hw1]) rfl hyk.kw ?_
            rw [updF_wt, hy1]; rfl
          · refine (OpSpec.mget (id := 3) (ver := 0) (ks := y1.ku) (val := usV km y1.u) (s := k0) (z := .nils) (v := okV false (if k0 ∈ y1.ku then usV km y1.u k0 else .nils) (decide (k0 ∈ y1.ku))) rfl Tryd.underlying56 rfl rfl rfl rfl rfl rfl).wk fun r w z hz => ?_
            have hz : VRel r w z (if k0 ∈ y1.ku then usV km y1.u k0 else .nils) := hz
            split at hz
            · exact hz
            · rename_i hnk
              rw [hy1k.u0 k0 hnk]; exact nil_ms hz
        refine pasn 2 [] rfl ?_ ?_
        · (repeat' with_reducible apply AllP_cons) <;> try exact aC
        refine S_spec (OpSpec.appendM (id := 7 + km.idxOf k0) (ver := (y1.u k0).length) (len := (y1.u k0).length) (cs := texts (y1.u k0)) (y := .str nn) rfl rfl rfl rfl rfl rfl ?_ (by unfold texts; simp) ?_ ?_) rfl rfl ?_
        · exact (or_at _).trans (usB_get y1.u hkm0)
        · show ((y1.u k0).length + 1) * 16 ≤ 140737488355328
          rw [hy1u]; omega
        · rw [hy1u]; omega
        refine S_heap (orG st v0 v1 km sm nd (some (bs, c0)) none (0, some (.miter 1 v1 c0 (sn ++ [bb]) c0)) (mapBx y1.kw (wtV y1.W)) (mapBx y1.ku (usV km y1.u)) y1.v y1.l (usB km (updN y1.u k0 (y1.u k0 ++ [nn])))) ?_ ?_
        · rw [← usB_set hkm y1.u _ hkm0, usE_snoc]
          exact or_set _ _
        have hlen1 : (y1.u k0 ++ [nn]).length = (y1.u k0).length + 1 := by simp
        refine pas [.f (.tup []) (fun _ => orH st v0 v1 km sm nd (some (bs, c0)) none (0, some (.miter 1 v1 c0 (sn ++ [bb]) c0)) y2)] rfl ?_ ?_
        · (repeat' with_reducible apply AllP_cons) <;> try exact aC
          · refine OpSpec.mput (id := 3) (ver := 0) (ks := y1.ku) (val := usV km y1.u) (s := k0) (v := .ms (7 + km.idxOf k0) (y1.u k0 ++ [nn]).length 0 (y1.u k0 ++ [nn]).length 1 false) rfl Tryd.underlying56 rfl rfl rfl (by rw [hlen1]; rfl) rfl hy1k.ku ?_
            rw [updF_us, hy2]; rfl
        refine S_round (j + 1, y2) (by show (nd nn).length - (j + 1) < (nd nn).length - j; omega) ⟨hjl, by rw [hy2]; exact hy1k.putU k0 _, fun n => ?_, fun k => ?_, by rw [hy2, hy1]; exact hyl⟩
          (.cons rfl (.cons rfl (.cons rfl (.cons rfl (.cons rfl (.cons rfl (.cons rfl (.cons rfl (.cons rfl (.cons (ai64 (by omega) (by omega)) (.nil _))))))))))) rfl
        · rw [hy2, hy1]
          show updN y.W nn (j + 1) n = if n = nn then j + 1 else x.W n
          unfold updN
          by_cases e : n = nn
          · rw [if_pos e, if_pos e]
          · rw [if_neg e, if_neg e, hyW, if_neg e]
        · rw [hy2]
          show updN y1.u k0 (y1.u k0 ++ [nn]) k = x.u k ++ List.replicate (((nd nn).take (j + 1)).count k) nn
          rw [htk, hy1u]
          unfold updN
          by_cases e : k = k0
          · subst e
            rw [if_pos rfl, if_pos rfl, hyu, List.append_assoc, ← List.replicate_succ']
          · rw [if_neg e, if_neg (fun h => e h.symm), hyu]; rfl
      · have hje : j = (nd nn).length := by omega
        have c1 : decide ((j : Int) < (((texts (nd nn)).length : Nat) : Int)) = false := decide_eq_false (by omega)
        have hWn : y.W nn = (nd nn).length := by rw [hyW, if_pos rfl, hje]
        have hWz : okV false (if nn ∈ y.kw then wtV y.W nn else .int .i64 0) (decide (nn ∈ y.kw)) = .int .i64 ((nd nn).length : Nat) := by
          show (if nn ∈ y.kw then wtV y.W nn else .int .i64 0) = _
          split
          · unfold wtV; rw [hWn]
          · rename_i hnk
            rw [← hWn, hyk.W0 nn hnk]; rfl
        have hW2 : ∀ n, y.W n = if n ∈ (sn ++ [bb]).map fn then (nd n).length else 0 := fun n => by
          rw [hyW, hmap, hW]
          by_cases e : n = nn
          · subst e; rw [if_pos rfl, if_pos (by simp), hje]
          · rw [if_neg e]
            by_cases e2 : n ∈ sn.map fn
            · rw [if_pos e2, if_pos (List.mem_append_left _ e2)]
            · rw [if_neg e2, if_neg (fun h => by rcases List.mem_append.1 h with h | h; exact e2 h; exact e (List.mem_singleton.1 h))]
        have hu2 : ∀ k, y.u k = usO nd ((sn ++ [bb]).map fn) k := fun k => by
          rw [hyu, hmap, usO_snoc, hu, hje, List.take_length]
        have hyl2 : y.l.length ≤ 100000 := by
          rw [hyl]
          have h3 : sm.length ≤ km.length := List.Nodup.length_le_of_subset hsm hsub
          rw [hl.length_eq]
          exact Nat.le_trans (List.length_filter_le _ _) (by rw [List.length_map]; omega)
        by_cases hnil : nd nn = []
        · have c3 : ((((nd nn).length : Nat) : Int) == 0) = true := by rw [hnil]; rfl
          refine pas [.b false, .v (.int .i64 ((nd nn).length : Nat)), .b true, .f (.tup []) (fun _ => orH st v0 v1 km sm nd (some (bs, c0)) none (0, some (.miter 1 v1 c0 (sn ++ [bb]) c0)) { y with v := y.v + 1, l := pushX y.l nn })] rfl ?_ ?_
          · (repeat' with_reducible apply AllP_cons) <;> try exact aC
            · exact OpSpec.mget (id := 2) (ver := 0) (ks := y.kw) (val := wtV y.W) (s := nn) (z := .int .i64 0) rfl Tryd.underlying69 rfl rfl rfl rfl rfl hWz
            · exact pq_frame (Push_ok y.v y.l nn none hyl2) (by intro a ha; rw [List.mem_singleton.1 ha]; exact .iface .str) (.tup (fun a ha => by cases ha)) st v0 v1 km sm nd _ _ _ _ _
          refine S_round (sn ++ [bb], { y with v := y.v + 1, l := pushX y.l nn }) (by show bs.length - (sn ++ [bb]).length < bs.length - sn.length; rw [List.length_append]; show bs.length - (sn.length + 1) < _; omega)
            ⟨hn2, hm2, ⟨hyk.kw, hyk.W0, hyk.ku, hyk.u0, by rw [pushX_len]; exact pushX_heap hyk.hp⟩, hW2, hu2, ?_⟩ (.cons rfl (.cons rfl (.cons rfl (.cons rfl (.cons rfl (.cons rfl (.nil _))))))) rfl
          refine (pushX_perm y.l nn).trans ?_
          rw [hmap, List.filter_append, hyl]
          refine hl.append ?_
          rw [List.filter_cons_of_pos (by simp [hnil]), List.filter_nil]
        · have c3 : ((((nd nn).length : Nat) : Int) == 0) = false := by
            have : (nd nn).length ≠ 0 := fun h => hnil (List.eq_nil_of_length_eq_zero h)
            simpa using this
          refine pas [.b false, .v (.int .i64 ((nd nn).length : Nat)), .b false] rfl ?_ ?_
          · (repeat' with_reducible apply AllP_cons) <;> try exact aC
            · exact OpSpec.mget (id := 2) (ver := 0) (ks := y.kw) (val := wtV y.W) (s := nn) (z := .int .i64 0) rfl Tryd.underlying69 rfl rfl rfl rfl rfl hWz
          refine S_round (sn ++ [bb], y) (by show bs.length - (sn ++ [bb]).length < bs.length - sn.length; rw [List.length_append]; show bs.length - (sn.length + 1) < _; omega)
            ⟨hn2, hm2, hyk, hW2, hu2, ?_⟩ (.cons rfl (.cons rfl (.cons rfl (.cons rfl (.cons rfl (.cons rfl (.nil _))))))) rfl
          show y.l.Perm _
          rw [hmap, List.filter_append, hyl, List.filter_cons_of_neg (by simpa using hnil), List.filter_nil, List.append_nil]
          exact hl
    · intro hall
      have hvp : (sn.map fn).Perm sm := by
        have h1 : sn.Perm bs := (List.perm_ext_iff_of_nodup hs1 hbn).2 fun z => ⟨fun h => hs2 z h, fun h => hall z h⟩
        refine (h1.map fn).trans ?_
        have h2 : bs.map fn = sm := by
          refine List.ext_getElem (by simp [hbl]) fun j h3 h4 => ?_
          have hj : j < bs.length := by simpa using h3
          rw [List.getElem_map, hfn]
          have : bs.idxOf bs[j] = j := (List.getElem_inj (h₀ := List.idxOf_lt_length_of_mem (List.getElem_mem hj)) (h₁ := hj) hbn).1 (List.getElem_idxOf (List.idxOf_lt_length_of_mem (List.getElem_mem hj)))
          rw [this]; simp [List.getD, List.getElem?_eq_getElem h4]
        rw [h2]
      have hord : OrdI nd sm [] x.l x.W := ord_begin hvp hsm hl fun n hn => by rw [hW, if_pos (hvp.mem_iff.2 hn)]
      have huc : ∀ k y, (x.u k).count y = if y ∈ sm then (nd y).count k else 0 := fun k y => by
        rw [hu, usO_count k y (hvp.nodup_iff.2 hsm)]
        by_cases h : y ∈ sm
        · rw [if_pos h, if_pos (hvp.mem_iff.2 h)]
        · rw [if_neg h, if_neg (fun h2 => h (hvp.mem_iff.1 h2))]
      have hul : ∀ k, (x.u k).length ≤ 2000000000 := fun k => by
        rw [hu]
        have h1 := usO_len hln k (sn.map fn)
        rw [List.length_map] at h1
        have h3 : sm.length ≤ km.length := List.Nodup.length_le_of_subset hsm hsub
        have h4 := hnat sn hs1 hs2
        have : sn.length * 1048576 ≤ 1000 * 1048576 := Nat.mul_le_mul_right _ (by omega)
        omega
      clear hW hu hl
      refine S_unstamp (id := 1) rfl ?_ ⟨.skip, _, .inr ⟨_, _, _, rfl⟩⟩
      refine S_drop (id := 6) rfl ?_ ⟨.skip, _, .inr ⟨_, _, _, rfl⟩⟩
      refine S_heap (orH st v0 v1 km sm nd none none (0, none) x) rfl ?_
      refine pas [.b false] rfl ?_ ?_
      · (repeat' with_reducible apply AllP_cons) <;> try exact aC
      refine S_ghostF (t := 12) (gid := 6) (gver := 1) (σ' := orH st v0 v1 km sm nd none none (1, some (.cells [] ⟨false, none⟩)) x) 1 ⟨false, none⟩ rfl rfl ⟨_, _, .inl rfl⟩ ?_
      generalize hR : ordG nd sm sm.length [] = R at *
      have hsl : sm.length ≤ 1000 := by
        have h3 : sm.length ≤ km.length := List.Nodup.length_le_of_subset hsm hsub
        omega
      refine S_while (α := List Nm × OrS) (fun s => [(0, .map 0 v0), (1, .map 1 v1), (6, .map 2 0), (7, .map 3 0), (8, .ptr 4 0 0), (12, .ms 6 (s.1.length + 1) 0 s.1.length 1 false)])
        (fun s => orH st v0 v1 km sm nd none none (s.1.length + 1, some (.cells (texts s.1) ⟨false, none⟩)) s.2)
        (fun s => OrOk km s.2 ∧ s.2.u = x.u ∧ OrdI nd sm s.1 s.2.l s.2.W ∧ Good nd s.1 ∧ (∀ n ∈ s.1, n ∈ sm) ∧ ordG nd sm (sm.length - s.1.length) s.1 = R) (fun s => sm.length - s.1.length)
        ([], x) ⟨hok, rfl, hord, .nil, (fun n h => by cases h), hR⟩ (.cons rfl (.cons rfl (.cons rfl (.cons rfl (.cons rfl (.cons rfl (.nil _))))))) rfl ?_
      rintro ⟨out, y⟩ ⟨hyk, hyu, hyo, hgood, hosm, hor⟩
      simp only at hyk hyu hyo hgood hosm hor
      have hol : out.length ≤ sm.length := List.Nodup.length_le_of_subset hgood.nodup hosm
      have hyl : y.l.length ≤ 1000 := by
        have : y.l.length ≤ sm.length := List.Nodup.length_le_of_subset hyo.hN (fun z hz => (rdy_iff.1 ((hyo.hm z).1 hz)).1)
        omega
      by_cases hemp : y.l = []
      · have c1 : decide ((y.l.length : Int) > 0) = false := by rw [hemp]; rfl
        refine pas [.k (.int .i64 (y.l.length : Nat)), .b false] rfl ?_ ?_
        · (repeat' with_reducible apply AllP_cons) <;> try exact aC
          · exact pqLen_ok 5 y.v y.l.length _
        have hor2 : out = R := by
          rw [← hor]
          exact (ordG_stop (next_no fun z hz => by have := (hyo.hm z).2 hz; rw [hemp] at this; cases this) _).symm
        refine S_ret ⟨_, _, rfl, trivial, 2, Nat.le_refl _, LowH.of ?_, _, ?_, rfl, rfl⟩
        · intro e he bx hbx
          have he : e ∈ ([(v0, mapBx km (ndV st nd)), (v1, mapBx sm fun _ => .bool true)] : Heap) := he
          rcases List.mem_cons.1 he with rfl | he
          · cases hbx
            refine .map fun kv hkv => ?_
            obtain ⟨q, _, rfl⟩ := List.mem_map.1 hkv
            exact ⟨.str, .sl fun a ha => by obtain ⟨t, _, rfl⟩ := List.mem_map.1 ha; exact .str⟩
          · rw [List.mem_singleton.1 he] at hbx
            cases hbx
            refine .map fun kv hkv => ?_
            obtain ⟨q, _, rfl⟩ := List.mem_map.1 hkv
            exact ⟨.str, .bool⟩
        · rw [← hor2]
          have hml : (mapF sm fun _ => AV.bool true).length = sm.length := by unfold mapF; rw [List.length_map]
          refine FzT.tup rfl fun i h1 h2 => ?_
          match i, h1, h2 with
          | 0, h1, h2 =>
            exact FzT.ms1 (by decide) rfl (fun a ha => by obtain ⟨t, _, rfl⟩ := List.mem_map.1 ha; rfl) (by unfold texts; simp) (fun a ha => by obtain ⟨t, _, rfl⟩ := List.mem_map.1 ha; exact .str)
          | 1, h1, h2 =>
            show FzT 2 _ (.bool ((out.length : Int) == (((mapF sm fun _ => AV.bool true).length : Nat) : Int))) (.bool (decide (out.length = sm.length)))
            rw [hml]
            have : ((out.length : Int) == (sm.length : Int)) = decide (out.length = sm.length) := by
              rw [Bool.eq_iff_iff]; simp; omega
            rw [this]; exact .low .bool
          | i + 2, h1, h2 => exact absurd h1 (by simp [tupOf])
      · have hlp : 0 < y.l.length := List.length_pos_iff.2 hemp
        have c1 : decide ((y.l.length : Int) > 0) = true := decide_eq_true (by omega)
        obtain ⟨hpp, _⟩ := popX_perm hemp
        have hb0 : gtx y.l 0 ∈ y.l := hpp.mem_iff.1 (List.mem_cons_self ..)
        have hnext : nextG nd sm out = some (gtx y.l 0) := next_is hsm hyo.hN hyo.hm hb0 fun z hz => by
          obtain ⟨q, hq, rfl⟩ := List.getElem_of_mem hz
          have := hyk.hp.least q hq
          have e : gtx y.l q = y.l[q] := by unfold gtx; simp [List.getD, List.getElem?_eq_getElem hq]
          rw [e] at this; exact this
        have hpl := popX_len y.l
        have hph := popX_heap hyk.hp
        generalize hbb : gtx y.l 0 = b at *
        obtain ⟨b1, b2, b3⟩ := next_some hnext
        have hui : UsI nd sm out (y.u b) b y.W := ⟨fun z => by rw [hyu]; exact huc b z, hyo.hW, rdy_iff.2 ⟨b1, b2, b3⟩, fun a ha k hk => hgood.closed ha hk⟩
        have hol2 : out.length + 1 ≤ sm.length := by
          have := List.Nodup.length_le_of_subset (hgood.step hnext).nodup (l₂ := sm) (fun z hz => by
            rcases List.mem_append.1 hz with hz | hz
            · exact hosm z hz
            · rw [List.mem_singleton.1 hz]; exact b1)
          simpa using this
        have hbk := hsub b b1
        have hublen : (y.u b).length ≤ 2000000000 := by rw [hyu]; exact hul b
        have hto : texts (out ++ [b]) = texts out ++ [.str b] := by unfold texts; simp
        refine pas [.k (.int .i64 (y.l.length : Nat)), .b true, .f (.iface 9 (.str b)) (fun _ => orH st v0 v1 km sm nd none none (out.length + 1, some (.cells (texts out) ⟨false, none⟩)) { y with l := popX y.l }), .v (.ms (7 + km.idxOf b) (y.u b).length 0 (y.u b).length 1 false)] rfl ?_ ?_
        · (repeat' with_reducible apply AllP_cons) <;> try exact aC
          · exact pqLen_ok 5 y.v y.l.length _
          · have := Pop_ok y.v y.l none hlp (by omega)
            rw [hbb] at this
            exact pq_frame this (fun a ha => by cases ha) (.iface .str) st v0 v1 km sm nd _ _ _ _ _
          · show 0 + out.length * 1 = (texts out).length
            unfold texts; simp
          · show (out.length + 1) * 16 ≤ 140737488355328
            omega
          · refine (OpSpec.mget (id := 3) (ver := 0) (ks := y.ku) (val := usV km y.u) (s := b) (z := .nils) (v := okV false (if b ∈ y.ku then usV km y.u b else .nils) (decide (b ∈ y.ku))) rfl Tryd.underlying56 rfl rfl rfl rfl rfl rfl).wk fun r w z hz => ?_
            have hz : VRel r w z (if b ∈ y.ku then usV km y.u b else .nils) := hz
            split at hz
            · exact hz
            · rename_i hnk
              rw [hyk.u0 b hnk]; exact nil_ms hz
        refine S_heap (orH st v0 v1 km sm nd none none (out.length + 1 + 1, some (.cells (texts (out ++ [b])) ⟨false, none⟩)) { y with l := popX y.l }) ?_ ?_
        · rw [hto]; rfl
        have hlo : (out ++ [b]).length = out.length + 1 := by simp
        refine S_while (α := Nat × OrS) (fun s => [(0, .map 0 v0), (1, .map 1 v1), (6, .map 2 0), (7, .map 3 0), (8, .ptr 4 0 0), (12, .ms 6 (out.length + 2) 0 (out.length + 1) 1 false), (71, .ms (7 + km.idxOf b) (y.u b).length 0 (y.u b).length 1 false), (72, .int .i64 ((y.u b).length : Nat)), (73, .int .i64 (s.1 : Nat))])
          (fun s => orH st v0 v1 km sm nd none none (out.length + 1 + 1, some (.cells (texts (out ++ [b])) ⟨false, none⟩)) s.2)
          (fun s => s.1 ≤ (y.u b).length ∧ OrOk km s.2 ∧ InI nd sm out b y.W ((y.u b).take s.1) s.2.l ∧ (∀ n, s.2.W n = decW y.W ((y.u b).take s.1) n) ∧ s.2.u = y.u) (fun s => (y.u b).length - s.1)
          (0, { y with l := popX y.l }) ⟨Nat.zero_le _, ⟨hyk.kw, hyk.W0, hyk.ku, hyk.u0, by rw [hpl]; exact hph⟩, in_begin hui hyo.hN hyo.hm hpp, (fun n => rfl), rfl⟩ (.cons rfl (.cons rfl (.cons rfl (.cons rfl (.cons rfl (.cons rfl (.cons rfl (.cons rfl (.cons rfl (.nil _)))))))))) rfl ?_
        rintro ⟨j, z⟩ ⟨hj, hzk, hzi, hzW, hzu⟩
        simp only at hj hzk hzi hzW hzu
        by_cases hjl : j < (y.u b).length
        · have c2 : decide ((j : Int) < (((y.u b).length : Nat) : Int)) = true := decide_eq_true (by omega)
          have hdr : (y.u b).take j ++ (y.u b)[j] :: (y.u b).drop (j + 1) = y.u b := by
            rw [← List.drop_eq_getElem_cons hjl, List.take_append_drop]
          have htk : (y.u b).take (j + 1) = (y.u b).take j ++ [(y.u b)[j]] := List.take_succ_eq_append_getElem hjl
          have hge : (texts (y.u b))[j]? = some (.str (y.u b)[j]) := by simp [texts, List.getElem?_eq_getElem hjl]
          generalize (y.u b)[j] = q at *
          have hpos := in_pos hui hdr
          have hw1 : IntKind.i64.wrap (((z.W q : Nat) : Int) - 1) = ((z.W q - 1 : Nat) : Int) := w64 (by rw [hzW]; omega) (by
            have := hui.hW q (hui.mem (by rw [← hdr]; simp)).1
            have h2 : ((nd q).countP fun k => decide (k ∉ out)) ≤ (nd q).length := List.countP_le_length
            have := hln q
            have h3 : decW y.W ((y.u b).take j) q ≤ y.W q := Nat.sub_le _ _
            rw [hzW]; omega)
          refine pas [.b true, .v .top, .s] rfl ?_ ?_
          · (repeat' with_reducible apply AllP_cons) <;> try exact aC
          refine S_spec (OpSpec.loadE (id := 7 + km.idxOf b) (ver := (y.u b).length) (cs := texts (y.u b)) (g := ⟨false, none⟩) (x := .str q) rfl rfl rfl rfl ?_ ?_) rfl rfl ?_
          · exact (or_at _).trans ((usB_get z.u hbk).trans (by rw [hzu]; rfl))
          · have e : offN 0 (mulN ((j : Int)).toNat 1) = j := by rw [offN_eq, mulN_eq, Int.toNat_natCast]; omega
            show (List.drop (offN 0 (mulN ((j : Int)).toNat 1)) (texts (y.u b)))[0]? = _
            rw [e, List.getElem?_drop, Nat.add_zero]; exact hge
          obtain ⟨z1, hz1⟩ : ∃ z1 : OrS, z1 = { z with kw := addK z.kw q, W := updN z.W q (z.W q - 1) } := ⟨_, rfl⟩
          have hz1k : OrOk km z1 := by rw [hz1]; exact hzk.put q _
          have hz1W : ∀ n, z1.W n = decW y.W ((y.u b).take (j + 1)) n := fun n => by
            rw [hz1, htk, decW_snoc]
            show updN z.W q (z.W q - 1) n = _
            unfold updN
            by_cases e : n = q
            · subst e; rw [if_pos rfl, if_pos rfl, hzW]
            · rw [if_neg e, if_neg e, hzW]
          have hz1u : z1.u = y.u := by rw [hz1]; exact hzu
          have hz1l : z1.l = z.l := by rw [hz1]
          have hz1q : z1.W q = decW y.W ((y.u b).take j) q - 1 := by rw [hz1W, htk, decW_snoc, if_pos rfl]
          have get2 : ∀ (x : OrS), OrOk km x → okV false (if q ∈ x.kw then wtV x.W q else .int .i64 0) (decide (q ∈ x.kw)) = .int .i64 (x.W q : Nat) := fun x hx => by
            show (if q ∈ x.kw then wtV x.W q else .int .i64 0) = _
            split
            · rfl
            · rename_i hnk
              rw [hx.W0 q hnk]; rfl
          have hzl : z1.l.length ≤ 100000 := by
            rw [hz1l]
            have : z.l.length ≤ sm.length := List.Nodup.length_le_of_subset hzi.hN (fun a ha => by
              rcases (hzi.hm a).1 ha with ⟨h1, _⟩ | ⟨h1, _⟩
              · exact (rdy_iff.1 h1).1
              · exact (hui.mem (List.mem_of_mem_take h1)).1)
            omega
          cases hzq : decide (z1.W q = 0) with
          | true =>
            have hz0 := of_decide_eq_true hzq
            have c3 : (((z1.W q : Nat) : Int) == 0) = true := by rw [hz0]; rfl
            refine pas [.v (.int .i64 (z.W q : Nat)), .f (.tup []) (fun _ => orH st v0 v1 km sm nd none none (out.length + 1 + 1, some (.cells (texts (out ++ [b])) ⟨false, none⟩)) z1), .v (.int .i64 (z1.W q : Nat)), .b true, .f (.tup []) (fun _ => orH st v0 v1 km sm nd none none (out.length + 1 + 1, some (.cells (texts (out ++ [b])) ⟨false, none⟩)) { z1 with v := z1.v + 1, l := pushX z1.l q })] rfl ?_ ?_
            · (repeat' with_reducible apply AllP_cons) <;> try exact aC
              · exact OpSpec.mget (id := 2) (ver := 0) (ks := z.kw) (val := wtV z.W) (s := q) (z := .int .i64 0) rfl Tryd.underlying69 rfl rfl rfl rfl rfl (get2 z hzk)
              · refine OpSpec.mput (id := 2) (ver := 0) (ks := z.kw) (val := wtV z.W) (s := q) (v := .int .i64 ((z.W q - 1 : Nat) : Int)) rfl Tryd.underlying69 rfl rfl rfl (by show AV.int .i64 (IntKind.i64.wrap (((z.W q : Nat) : Int) - 1)) = _; rw [hw1]) rfl hzk.kw ?_
                rw [updF_wt, hz1]; rfl
              · exact OpSpec.mget (id := 2) (ver := 0) (ks := z1.kw) (val := wtV z1.W) (s := q) (z := .int .i64 0) rfl Tryd.underlying69 rfl rfl rfl rfl rfl (get2 z1 hz1k)
              · exact pq_frame (Push_ok z1.v z1.l q none hzl) (by intro a ha; rw [List.mem_singleton.1 ha]; exact .iface .str) (.tup (fun a ha => by cases ha)) st v0 v1 km sm nd _ _ _ _ _
            refine S_round (j + 1, { z1 with v := z1.v + 1, l := pushX z1.l q }) (by show (y.u b).length - (j + 1) < (y.u b).length - j; omega) ⟨hjl, ⟨hz1k.kw, hz1k.W0, hz1k.ku, hz1k.u0, by rw [pushX_len]; exact pushX_heap hz1k.hp⟩, ?_, hz1W, hz1u⟩
              (.cons rfl (.cons rfl (.cons rfl (.cons rfl (.cons rfl (.cons rfl (.cons rfl (.cons rfl (.cons (ai64 (by omega) (by omega)) (.nil _)))))))))) rfl
            show InI nd sm out b y.W ((y.u b).take (j + 1)) (pushX z1.l q)
            rw [htk, hz1l]
            exact in_push hui hdr hzi (by rw [← hz1q]; exact hz0) (pushX_perm z.l q)
          | false =>
            have hz0 := of_decide_eq_false hzq
            have c3 : (((z1.W q : Nat) : Int) == 0) = false := by simpa using hz0
            refine pas [.v (.int .i64 (z.W q : Nat)), .f (.tup []) (fun _ => orH st v0 v1 km sm nd none none (out.length + 1 + 1, some (.cells (texts (out ++ [b])) ⟨false, none⟩)) z1), .v (.int .i64 (z1.W q : Nat)), .b false] rfl ?_ ?_
            · (repeat' with_reducible apply AllP_cons) <;> try exact aC
              · exact OpSpec.mget (id := 2) (ver := 0) (ks := z.kw) (val := wtV z.W) (s := q) (z := .int .i64 0) rfl Tryd.underlying69 rfl rfl rfl rfl rfl (get2 z hzk)
              · refine OpSpec.mput (id := 2) (ver := 0) (ks := z.kw) (val := wtV z.W) (s := q) (v := .int .i64 ((z.W q - 1 : Nat) : Int)) rfl Tryd.underlying69 rfl rfl rfl (by show AV.int .i64 (IntKind.i64.wrap (((z.W q : Nat) : Int) - 1)) = _; rw [hw1]) rfl hzk.kw ?_
                rw [updF_wt, hz1]; rfl
              · exact OpSpec.mget (id := 2) (ver := 0) (ks := z1.kw) (val := wtV z1.W) (s := q) (z := .int .i64 0) rfl Tryd.underlying69 rfl rfl rfl rfl rfl (get2 z1 hz1k)
            refine S_round (j + 1, z1) (by show (y.u b).length - (j + 1) < (y.u b).length - j; omega) ⟨hjl, hz1k, ?_, hz1W, hz1u⟩
              (.cons rfl (.cons rfl (.cons rfl (.cons rfl (.cons rfl (.cons rfl (.cons rfl (.cons rfl (.cons (ai64 (by omega) (by omega)) (.nil _)))))))))) rfl
            show InI nd sm out b y.W ((y.u b).take (j + 1)) z1.l
            rw [htk, hz1l]
            exact in_skip hui hdr hzi (by rw [← hz1q]; exact hz0)
        · have hje : j = (y.u b).length := by omega
          have c2 : decide ((j : Int) < (((y.u b).length : Nat) : Int)) = false := decide_eq_false (by omega)
          refine pas [.b false] rfl ?_ ?_
          · (repeat' with_reducible apply AllP_cons) <;> try exact aC
          rw [hje, List.take_length] at hzi hzW
          have hWe : z.W = decW y.W (y.u b) := funext hzW
          refine S_round (out ++ [b], z) (by show sm.length - (out ++ [b]).length < sm.length - out.length; rw [hlo]; omega)
            ⟨hzk, hzu.trans hyu, by show OrdI nd sm (out ++ [b]) z.l z.W; rw [hWe]; exact in_end hui hzi, hgood.step hnext, fun n hn => ?_, ?_⟩ (.cons rfl (.cons rfl (.cons rfl (.cons rfl (.cons rfl (.cons ?_ (.nil _))))))) ?_
          · rcases List.mem_append.1 hn with hn | hn
            · exact hosm n hn
            · rw [List.mem_singleton.1 hn]; exact b1
          · show ordG nd sm (sm.length - (out ++ [b]).length) (out ++ [b]) = R
            rw [← hor, hlo, show sm.length - out.length = (sm.length - (out.length + 1)) + 1 by omega, ordG_step hnext]
          · show AV.ms 6 (out.length + 2) 0 (out.length + 1) 1 false = .ms 6 ((out ++ [b]).length + 1) 0 (out ++ [b]).length 1 false
            rw [hlo]
          · show orH st v0 v1 km sm nd none none (out.length + 1 + 1, _) z = orH st v0 v1 km sm nd none none ((out ++ [b]).length + 1, _) z
            rw [hlo]
end Go.Proofs.YtnfalbdnkgaelaaDoor
end
section
set_option linter.unusedVariables false
set_option linter.unusedSimpArgs false
set_option maxRecDepth 20000
set_option maxHeartbeats 1000000
namespace Go.Proofs.YtnfalbdnkgaelaaDoor
open Go Go.Ab
def nmM (st : Bool) (l : List Tg) : Option Box := mapBx (nmsG l) (ndV st (ndT l))
def nmH (st : Bool) (l : List Tg) : Heap := if nmE l = 0 then [(0, nmM st l)] else []
def nmR (l : List Tg) : AV := .tup [if nmE l = 0 then .map 0 0 else .nilm, .int .i64 (nmE l : Nat)]
structure TgSz (l : List Tg) : Prop where
  nm : ∀ t ∈ l, t.name.length ≤ 1000000000
  nd : ∀ t ∈ l, t.needs.length ≤ 1048576
theorem TgSz.ndT {l : List Tg} (h : TgSz l) (n : Nm) : (ndT l n).length ≤ 1048576 := by
  induction l with
  | nil => exact Nat.zero_le _
  | cons t r ih =>
    show (if t.name = n then t.needs else Go.Proofs.YtnfalbdnkgaelaaDoor.ndT r n).length ≤ _
    split
    · exact h.nd t (List.mem_cons_self ..)
    · exact ih ⟨fun t ht => h.nm t (List.mem_cons_of_mem _ ht), fun t ht => h.nd t (List.mem_cons_of_mem _ ht)⟩
theorem named_ok (st st' fl : Bool) (l : List Tg) (hl : l.length ≤ 1000000000) (hz : TgSz l) : CallOk cx 34 [.sl st' fl 5 (tgs st l)] [] (fun e s => e = .ret (nmR l) ∧ s = nmH st l) :=
  callOk_introT (fun a w => Tryd.call34 a w) Tryd.func34 rfl Tryd.ntmps34 rfl fun B => by
    by_cases h60 : 60 < l.length
    · have he : nmE l = 2 := by unfold nmE; rw [if_pos h60]
      have c1 : decide ((((tgs st l).length : Nat) : Int) > 60) = true := by rw [tgs_len]; exact decide_eq_true (by omega)
      refine pB [.b true] rfl ?_
      refine S_ret ⟨_, _, rfl, trivial, 0, Nat.le_refl _, LowH.of (fun e he => by cases he), _, .low ?_, ?_, ?_⟩
      · exact Low.tup (fun a ha => by rcases List.mem_cons.1 ha with rfl | ha; exact .nilm; rw [List.mem_singleton.1 ha]; exact .int)
      · unfold nmR; rw [he]; rfl
      · unfold nmH; rw [he]; rfl
    have c1 : decide ((((tgs st l).length : Nat) : Int) > 60) = false := by rw [tgs_len]; exact decide_eq_false (by omega)
    refine pa [.b false, .f (.map 0 0) (fun _ => [(0, some (.map [] (some ([], 0))))])] rfl ?_ ?_
    · (repeat' with_reducible apply AllP_cons) <;> try exact aC
      · exact OpSpec.mapN rfl trivial
    refine S_unstamp (id := 0) rfl ?_ ⟨_, _, .inl rfl⟩
    refine S_dead ?_ ⟨_, _, .inl rfl⟩
    have hil : ∀ (i : Nat), i < l.length → decide ((i : Int) < (((tgs st l).length : Nat) : Int)) = true := fun i h => by rw [tgs_len]; exact decide_eq_true (by omega)
    have hex : ∀ (i : Nat), i = l.length → decide ((i : Int) < (((tgs st l).length : Nat) : Int)) = false := fun i h => by rw [tgs_len]; exact decide_eq_false (by omega)
    have herr : ∀ (e : Nat) (σ : Heap), nmE l = e → e ≠ 0 → TR 0 (fun o s => o = .ret (nmR l) ∧ s = nmH st l) (.ret (.tup [.nilm, .int .i64 (e : Nat)])) σ := fun e σ he h0 =>
      ⟨0, Nat.le_refl _, LowH.of (fun e he => by simp at he), _, .low (.tup (fun a ha => by rcases List.mem_cons.1 ha with rfl | ha; exact .nilm; rw [List.mem_singleton.1 ha]; exact .int)), by unfold nmR; rw [he, if_neg h0], by unfold nmH; rw [he, if_neg h0]; rfl⟩
    refine S_while (α := Nat) (fun i => [(0, .sl st' fl 5 (tgs st l)), (4, .map 0 0), (21, .sl st' fl 5 (tgs st l)), (22, .int .i64 ((tgs st l).length : Nat)), (23, .int .i64 (i : Nat))]) (fun i => [(0, some (.map [] none)), (i, none)])
      (fun i => i ≤ l.length ∧ ∀ t ∈ l.take i, isName t.name = true) (fun i => l.length - i) 0 ⟨Nat.zero_le _, fun t h => by cases h⟩ (.cons rfl (.cons rfl (.cons rfl (.cons rfl (.cons rfl (.nil _)))))) rfl ?_
    rintro i ⟨hi, hnm⟩
    by_cases hlt : i < l.length
    · have c2 := hil i hlt
      have c3 : (tgs st l)[(i : Int).toNat]? = some (tgA st l[i]) := by rw [Int.toNat_natCast]; exact tgs_get hlt
      have hni := isName_ok l[i].name (by have := hz.nm _ (List.getElem_mem hlt); omega)
      cases hb : isName l[i].name with
      | false =>
        rw [hb] at hni
        refine pa [.b true, .v (tgA st l[i]), .v (.bool false), .b true] rfl ?_ ?_
        · (repeat' with_reducible apply AllP_cons) <;> try exact aC
          · exact ⟨_, hni, .cons (.refl .str) (.nil _)⟩
        refine S_ret ⟨_, _, rfl, trivial, herr 1 _ ?_ (by decide)⟩
        unfold nmE
        rw [if_neg h60, if_pos]
        exact Bool.eq_false_iff.2 fun h => by
          have := List.all_eq_true.1 h _ (List.getElem_mem hlt)
          rw [hb] at this; cases this
      | true =>
        rw [hb] at hni
        refine pa [.b true, .v (tgA st l[i]), .v (.bool true)] rfl ?_ ?_
        · (repeat' with_reducible apply AllP_cons) <;> try exact aC
          · exact ⟨_, hni, .cons (.refl .str) (.nil _)⟩
        refine S_drop (id := 1) rfl ?_ ⟨_, _, .inl rfl⟩
        refine pB [.b false] rfl ?_
        refine S_round (i + 1) (by show l.length - (i + 1) < l.length - i; omega) ⟨hlt, fun t ht => ?_⟩ (.cons rfl (.cons rfl (.cons rfl (.cons rfl (.cons (ai64 (by omega) (by omega)) (.nil _)))))) rfl
        rw [List.take_succ_eq_append_getElem hlt] at ht
        rcases List.mem_append.1 ht with ht | ht
        · exact hnm t ht
        · rw [List.mem_singleton.1 ht]; exact hb
    obtain rfl : i = l.length := by omega
    have hall : ∀ t ∈ l, isName t.name = true := by rw [List.take_length] at hnm; exact hnm
    clear hnm hi hlt
    refine pa [.b false] rfl ?_ ?_
    · (repeat' with_reducible apply AllP_cons) <;> try exact aC
      · exact hex _ rfl
    refine S_while (α := Nat) (fun i => [(0, .sl st' fl 5 (tgs st l)), (4, .map 0 0), (32, .sl st' fl 5 (tgs st l)), (33, .int .i64 ((tgs st l).length : Nat)), (34, .int .i64 (i : Nat))]) (fun i => [(0, nmM st (l.take i)), (l.length + i, none)])
      (fun i => i ≤ l.length ∧ (nmsG (l.take i)).Nodup) (fun i => l.length - i) 0 ⟨Nat.zero_le _, List.nodup_nil⟩ (.cons rfl (.cons rfl (.cons rfl (.cons rfl (.cons rfl (.nil _)))))) rfl ?_
    rintro i ⟨hi, hnd⟩
    by_cases hlt : i < l.length
    · have c2 := hil i hlt
      have c3 : (tgs st l)[(i : Int).toNat]? = some (tgA st l[i]) := by rw [Int.toNat_natCast]; exact tgs_get hlt
      cases hb : decide (l[i].name ∈ nmsG (l.take i)) with
      | true =>
        have hm := of_decide_eq_true hb
        refine pa [.b true, .v (tgA st l[i]), .v (.tup [ndV st (ndT (l.take i)) l[i].name, .bool true]), .b true] rfl ?_ ?_
        · (repeat' with_reducible apply AllP_cons) <;> try exact aC
          · exact OpSpec.mget (id := 0) (ver := 0) (ks := nmsG (l.take i)) (val := ndV st (ndT (l.take i))) (s := l[i].name) (z := .nils) rfl Tryd.underlying57 rfl rfl rfl rfl rfl (by rw [if_pos hm, hb]; rfl)
        refine S_ret ⟨_, _, rfl, trivial, herr 6 _ ?_ (by decide)⟩
        unfold nmE
        rw [if_neg h60, if_neg, if_pos (decide_eq_false (nms_dup hlt hm))]
        rw [List.all_eq_true.2 hall]; simp
      | false =>
        have hm := of_decide_eq_false hb
        have hval : updF (ndV st (ndT (l.take i))) l[i].name (.sl st false 1 (texts l[i].needs)) = ndV st (ndT (l.take (i + 1))) := by
          funext k
          unfold updF ndV
          rw [List.take_succ_eq_append_getElem hlt, ndT_snoc]
          by_cases h1 : k = l[i].name
          · rw [if_pos h1, if_neg (by rw [h1]; exact hm), if_pos h1.symm]
          · rw [if_neg h1]
            by_cases h2 : k ∈ nmsG (l.take i)
            · rw [if_pos h2]
            · rw [if_neg h2, ndT_out h2, if_neg (fun h => h1 h.symm)]
        refine pa [.b true, .v (tgA st l[i]), .v (.tup [.nils, .bool false]), .b false, .f (.tup []) (fun σ => (0, nmM st (l.take (i + 1))) :: σ.tail), .s] rfl ?_ ?_
        · (repeat' with_reducible apply AllP_cons) <;> try exact aC
          · exact OpSpec.mget (id := 0) (ver := 0) (ks := nmsG (l.take i)) (val := ndV st (ndT (l.take i))) (s := l[i].name) (z := .nils) rfl Tryd.underlying57 rfl rfl rfl rfl rfl (by rw [if_neg hm, hb]; rfl)
          · refine OpSpec.mput (id := 0) (ver := 0) (ks := nmsG (l.take i)) (val := ndV st (ndT (l.take i))) (s := l[i].name) (v := .sl st false 1 (texts l[i].needs)) rfl Tryd.underlying57 rfl rfl rfl rfl rfl hnd ?_
            rw [hval]
            unfold nmM
            rw [nms_snoc hlt]
            unfold addK
            rw [if_neg hm]
            rfl
        refine S_drop (id := 1) rfl ?_ ⟨.skip, _, .inr ⟨_, _, _, rfl⟩⟩
        refine pB [] rfl ?_
        refine S_round (i + 1) (by show l.length - (i + 1) < l.length - i; omega) ⟨hlt, ?_⟩ (.cons rfl (.cons rfl (.cons rfl (.cons rfl (.cons (ai64 (by omega) (by omega)) (.nil _)))))) rfl
        rw [nms_snoc hlt]
        exact List.nodup_append.2 ⟨hnd, by simp, fun a ha c hc e => by rw [List.mem_singleton.1 hc] at e; exact hm (e ▸ ha)⟩
    obtain rfl : i = l.length := by omega
    rw [List.take_length] at hnd
    clear hi hlt
    refine S_heap [(0, nmM st l), (l.length + l.length, none)] (by rw [List.take_length]) ?_
    refine pa [.b false, .s] rfl ?_ ?_
    · (repeat' with_reducible apply AllP_cons) <;> try exact aC
      · exact hex _ rfl
    refine S_stamp (id := 0) rfl (fun bs c0 hbl hbn hbc => ?_) ⟨.skip, _, .inr ⟨_, _, _, rfl⟩⟩
    have hbl : bs.length = l.length := by rw [hbl]; unfold mapF; rw [List.length_map, nms_len]
    refine pa [.f (.ptr 1 (l.length + l.length + 1) 0) (fun _ => [(0, some (.map (mapF (nmsG l) (ndV st (ndT l))) (some (bs, c0)))), (l.length + l.length + 1, some (.miter 0 0 c0 [] c0))])] rfl ?_ ?_
    · (repeat' with_reducible apply AllP_cons) <;> try exact aC
      · exact OpSpec.mapN (C := [0 = 0]) rfl ⟨rfl, trivial⟩
    have hnat : ∀ sn : List Nat, sn.Nodup → (∀ x ∈ sn, x ∈ bs) → sn.length ≤ bs.length := fun sn h1 h2 => List.Nodup.length_le_of_subset h1 h2
    obtain ⟨fn, hfn⟩ : ∃ fn : Nat → Nat, ∀ bb, fn bb = bs.idxOf bb := ⟨fun bb => bs.idxOf bb, fun _ => rfl⟩
    refine S_while (α := List Nat) (fun sn => [(4, .map 0 0), (53, .ptr 1 (l.length + l.length + 1) 0)]) (fun sn => [(0, some (.map (mapF (nmsG l) (ndV st (ndT l))) (some (bs, c0)))), (l.length + l.length + 1, some (.miter 0 0 c0 sn c0))])
      (fun sn => sn.Nodup ∧ (∀ x ∈ sn, x ∈ bs) ∧ ∀ x ∈ sn, ∀ (h : fn x < l.length), ∀ k ∈ l[fn x].needs, k ∈ nmsG l) (fun sn => bs.length - sn.length) [] ⟨.nil, (fun x h => by cases h), fun x h => by cases h⟩ (.cons rfl (.cons rfl (.nil _))) rfl ?_
    rintro sn ⟨hs1, hs2, hs3⟩
    refine pB [] rfl ?_
    refine S_mnext (id := 1) (ver := l.length + l.length + 1) (mid := 0) (mver := 0) (since := c0) (last := c0) (c := c0) (seen := sn) (bs := bs) (kvs := mapF (nmsG l) (ndV st (ndT l))) rfl rfl rfl rfl (fun x hx => hbc x hx) (Nat.le_refl _) rfl rfl ?_ ?_
    · intro i bb hi2 hb hns
      have hi3 : i < l.length := by simpa [mapF, nms_len] using hi2
      have hkv : (mapF (nmsG l) (ndV st (ndT l)))[i]? = some (.str l[i].name, .sl st false 1 (texts l[i].needs)) := by
        have : (mapF (nmsG l) (ndV st (ndT l)))[i]? = some (.str l[i].name, ndV st (ndT l) l[i].name) := by
          unfold mapF nmsG; simp [List.getElem?_eq_getElem hi3]
        rw [this]; unfold ndV; rw [ndT_at hi3 hnd]
      have hbm : bb ∈ bs := List.mem_of_getElem? hb
      have hn2 : (sn ++ [bb]).Nodup := List.nodup_append.2 ⟨hs1, by simp, fun x hx y hy => by simp at hy; subst hy; exact fun e => hns (e ▸ hx)⟩
      have hm2 : ∀ x ∈ sn ++ [bb], x ∈ bs := fun x hx => by
        rcases List.mem_append.1 hx with hx | hx
        · exact hs2 x hx
        · simp at hx; subst hx; exact hbm
      have hlen2 := hnat _ hn2 hm2
      rw [List.length_append] at hlen2
      have hlen2 : sn.length + 1 ≤ bs.length := hlen2
      have hidx : fn bb = i := by
        have hib : i < bs.length := by omega
        rw [hfn]
        have h1 : bs.idxOf bb < bs.length := List.idxOf_lt_length_of_mem hbm
        have h2 : bs[bs.idxOf bb] = bb := List.getElem_idxOf h1
        rw [List.getElem?_eq_getElem hib] at hb
        exact (List.getElem_inj (h₀ := h1) (h₁ := hib) hbn).1 (h2.trans (Option.some.inj hb).symm)
      have hnl := hz.nd _ (List.getElem_mem hi3)
      have hmem : l[i] ∈ l := List.getElem_mem hi3
      have hneeds : l[fn bb]? = some l[i] := by rw [hidx]; exact List.getElem?_eq_getElem hi3
      generalize l[i] = t at *
      refine pa [.b true, .v (.tup [.str t.name, .sl st false 1 (texts t.needs)])] rfl ?_ ?_
      · (repeat' with_reducible apply AllP_cons) <;> try exact aC
        · exact OpSpec.entryG (id := 1) (ver := l.length + l.length + 1) (mid := 0) (mver := 0) (since := c0) (c := c0) (i := i) (b := bb) (seen := sn) (bs := bs) rfl rfl rfl rfl hb hkv
      refine S_while (α := Nat) (fun j => [(4, .map 0 0), (53, .ptr 1 (l.length + l.length + 1) 0), (58, .sl st false 1 (texts t.needs)), (59, .int .i64 ((texts t.needs).length : Nat)), (60, .int .i64 (j : Nat))])
        (fun j => [(0, some (.map (mapF (nmsG l) (ndV st (ndT l))) (some (bs, c0)))), (l.length + l.length + 1, some (.miter 0 0 c0 (sn ++ [bb]) c0))]) (fun j => j ≤ t.needs.length ∧ ∀ k ∈ t.needs.take j, k ∈ nmsG l) (fun j => t.needs.length - j) 0 ⟨Nat.zero_le _, fun k h => by cases h⟩ (.cons rfl (.cons rfl (.cons rfl (.cons rfl (.cons rfl (.nil _)))))) rfl ?_
      rintro j ⟨hj, hjk⟩
      have htl := texts_len t.needs
      by_cases hjl : j < t.needs.length
      · have c2 : decide ((j : Int) < (((texts t.needs).length : Nat) : Int)) = true := decide_eq_true (by omega)
        have c3 : (texts t.needs)[(j : Int).toNat]? = some (.str t.needs[j]) := by rw [Int.toNat_natCast]; exact texts_get hjl
        cases hb2 : decide (t.needs[j] ∈ nmsG l) with
        | true =>
          have hm := of_decide_eq_true hb2
          refine pa [.b true, .v (.str t.needs[j]), .v (.tup [ndV st (ndT l) t.needs[j], .bool true]), .b false] rfl ?_ ?_
          · (repeat' with_reducible apply AllP_cons) <;> try exact aC
            · exact OpSpec.mgetS (id := 0) (ver := 0) (ks := nmsG l) (val := ndV st (ndT l)) (s := t.needs[j]) (z := .nils) rfl Tryd.underlying57 rfl rfl rfl rfl rfl (by rw [if_pos hm, hb2]; rfl)
          refine S_round (j + 1) (by show t.needs.length - (j + 1) < t.needs.length - j; omega) ⟨hjl, fun k hk => ?_⟩ (.cons rfl (.cons rfl (.cons rfl (.cons rfl (.cons (ai64 (by omega) (by omega)) (.nil _)))))) rfl
          rw [List.take_succ_eq_append_getElem hjl] at hk
          rcases List.mem_append.1 hk with hk | hk
          · exact hjk k hk
          · rw [List.mem_singleton.1 hk]; exact hm
        | false =>
          have hm := of_decide_eq_false hb2
          refine pa [.b true, .v (.str t.needs[j]), .v (.tup [.nils, .bool false]), .b true] rfl ?_ ?_
          · (repeat' with_reducible apply AllP_cons) <;> try exact aC
            · exact OpSpec.mgetS (id := 0) (ver := 0) (ks := nmsG l) (val := ndV st (ndT l)) (s := t.needs[j]) (z := .nils) rfl Tryd.underlying57 rfl rfl rfl rfl rfl (by rw [if_neg hm, hb2]; rfl)
          refine S_ret ⟨_, _, rfl, trivial, herr 5 _ ?_ (by decide)⟩
          unfold nmE
          rw [if_neg h60, if_neg (by rw [List.all_eq_true.2 hall]; simp), if_neg (by simpa using hnd), if_pos]
          refine Bool.eq_false_iff.2 fun h => ?_
          have h1 := List.all_eq_true.1 h _ hmem
          have h2 := List.all_eq_true.1 h1 _ (List.getElem_mem hjl)
          exact hm (of_decide_eq_true h2)
      · have hje : j = t.needs.length := by omega
        have c2 : decide ((j : Int) < (((texts t.needs).length : Nat) : Int)) = false := decide_eq_false (by omega)
        refine pB [.b false] rfl ?_
        refine S_round (sn ++ [bb]) (by show bs.length - (sn ++ [bb]).length < bs.length - sn.length; rw [List.length_append]; show bs.length - (sn.length + 1) < _; omega) ⟨hn2, hm2, fun x hx h k hk => ?_⟩ (.cons rfl (.cons rfl (.nil _))) rfl
        rcases List.mem_append.1 hx with hx | hx
        · exact hs3 x hx h k hk
        · obtain rfl := List.mem_singleton.1 hx
          have : l[fn x] = t := by
            rw [List.getElem?_eq_getElem h] at hneeds
            exact Option.some.inj hneeds
          rw [this] at hk
          rw [hje, List.take_length] at hjk
          exact hjk k hk
    · intro hall2
      have hok : nmE l = 0 := nmE_ok.2 ⟨by omega, hall, hnd, fun t ht k hk => by
        obtain ⟨i, hi, rfl⟩ := List.getElem_of_mem ht
        have hib : i < bs.length := by omega
        have hx := hall2 bs[i] (List.getElem_mem hib)
        have hfx : fn bs[i] = i := by
          rw [hfn]
          exact (List.getElem_inj (h₀ := List.idxOf_lt_length_of_mem (List.getElem_mem hib)) (h₁ := hib) hbn).1 (List.getElem_idxOf (List.idxOf_lt_length_of_mem (List.getElem_mem hib)))
        have := hs3 _ hx (by rw [hfx]; exact hi) k
        simp only [hfx] at this
        exact this hk⟩
      refine S_unstamp (id := 0) rfl ?_ ⟨.skip, _, .inr ⟨_, _, _, rfl⟩⟩
      refine pB [.b false] rfl ?_
      refine S_ret ⟨_, _, rfl, trivial, 1, Nat.zero_le _, LowH.of ?_, _, .low ?_, ?_, ?_⟩
      · intro e he bx hbx
        have he : e ∈ ([(0, nmM st l)] : Heap) := he
        rw [List.mem_singleton.1 he] at hbx
        cases hbx
        refine .map fun kv hkv => ?_
        obtain ⟨q, _, rfl⟩ := List.mem_map.1 hkv
        exact ⟨.str, .sl fun a ha => by obtain ⟨t, _, rfl⟩ := List.mem_map.1 ha; exact .str⟩
      · exact Low.tup (fun a ha => by rcases List.mem_cons.1 ha with rfl | ha; exact .map (by decide); rw [List.mem_singleton.1 ha]; exact .int)
      · unfold nmR; rw [hok]; rfl
      · unfold nmH; rw [hok]; rfl
end Go.Proofs.YtnfalbdnkgaelaaDoor
end
section
set_option linter.unusedVariables false
set_option linter.unusedSimpArgs false
namespace Go.Ab
open Go
section
variable {cx : Cx} {n : Nat} {B : Bs} {k : List AI} {Q : Post} {fr : Fr} {σ : Heap}
theorem OpSpec.insert {o : Oper} {t : TypeId} {m key x : Operand} {v : AV} {σ' : Heap} (ho : o.op = .insert t m key x) (h : OpSpec cx n fr σ { o with op := .mapUpdate t m key x } v σ') : OpSpec cx n fr σ o v σ' := by
  intro r a w hi hf
  have h1 := h r a w hi hf
  have : execOp a.eval o = execOp a.eval { o with op := .mapUpdate t m key x } := by
    obtain ⟨d, op, ty, ps, af, g⟩ := o
    simp only at ho
    subst ho
    rfl
  rw [this]
  exact h1
end
end Go.Ab
end
section
set_option linter.unusedVariables false
set_option linter.unusedSimpArgs false
set_option maxRecDepth 20000
set_option maxHeartbeats 1000000
namespace Go.Proofs.YtnfalbdnkgaelaaDoor
open Go Go.Ab
theorem inj_map {α β : Type} {f : α → β} : ∀ {l : List α}, (l.map f).Nodup → ∀ {a c : α}, a ∈ l → c ∈ l → f a = f c → a = c
  | x :: l, h, a, c, ha, hc, e => by
    obtain ⟨h1, h2⟩ := List.nodup_cons.1 (show (f x :: l.map f).Nodup from h)
    rcases List.mem_cons.1 ha with e1 | ha2 <;> rcases List.mem_cons.1 hc with e2 | hc2
    · rw [e1, e2]
    · exact absurd (by rw [← e1, e]; exact List.mem_map_of_mem hc2) h1
    · exact absurd (by rw [← e2, ← e]; exact List.mem_map_of_mem ha2) h1
    · exact inj_map h2 ha2 hc2 e
def inBx (ps : List Nm) : Option Box := mapBx ps fun _ => .bool true
theorem ndV_low (k : Nat) (st : Bool) (nd : Nm → List Nm) (ks : List Nm) (sp : Option (List Nat × Nat)) : LowBox k (.map (mapF ks (ndV st nd)) sp) := .map fun kv hkv => by
  obtain ⟨q, _, rfl⟩ := List.mem_map.1 hkv
  exact ⟨.str, .sl fun a ha => by obtain ⟨t, _, rfl⟩ := List.mem_map.1 ha; exact .str⟩
theorem in_low (k : Nat) (ps : List Nm) : LowBox k (.map (mapF ps fun _ => .bool true) none) := .map fun kv hkv => by
  obtain ⟨q, _, rfl⟩ := List.mem_map.1 hkv
  exact ⟨.str, .bool⟩
theorem low2 {v : Nat} {st : Bool} {nd : Nm → List Nm} {ks ps : List Nm} {sp : Option (List Nat × Nat)} {τ : Heap} : LowH 2 ((v, some (.map (mapF ks (ndV st nd)) sp)) :: (0, inBx ps) :: τ) := LowH.of fun e he bx hbx => by
  have he : e ∈ ([(v, some (.map (mapF ks (ndV st nd)) sp)), (0, inBx ps)] : Heap) := he
  rcases List.mem_cons.1 he with rfl | he
  · cases hbx; exact ndV_low ..
  · rw [List.mem_singleton.1 he] at hbx; cases hbx; exact in_low ..
theorem all_ok (st : Bool) (v : Nat) (ks : List Nm) (nd : Nm → List Nm) (hks : ks.Nodup) : CallOk cx 36 [.map 0 v] [(v, mapBx ks (ndV st nd))] (fun o s => ∃ ps, ps.Perm ks ∧ o = .ret (.map 1 0) ∧ s = [(v, mapBx ks (ndV st nd)), (0, inBx ps)]) :=
  callOk_introT (fun a w => Tryd.call36 a w) Tryd.func36 rfl Tryd.ntmps36 rfl fun B => by
    refine pa [.f (.map 1 0) (fun _ => [(v, mapBx ks (ndV st nd)), (0, some (.map [] (some ([], 0))))])] rfl ?_ ?_
    · (repeat' with_reducible apply AllP_cons) <;> try exact aC
      · exact OpSpec.mapN rfl trivial
    refine S_unstamp (id := 1) rfl ?_ ⟨.skip, _, .inr ⟨_, _, _, rfl⟩⟩
    refine S_stamp (id := 0) rfl (fun bs c0 hbl hbn hbc => ?_) ⟨.skip, _, .inr ⟨_, _, _, rfl⟩⟩
    have hbl : bs.length = ks.length := by rw [hbl]; unfold mapF; rw [List.length_map]
    refine pa [.f (.ptr 2 0 0) (fun _ => [(v, some (.map (mapF ks (ndV st nd)) (some (bs, c0)))), (0, inBx []), (0, some (.miter 0 v c0 [] c0))])] rfl ?_ ?_
    · (repeat' with_reducible apply AllP_cons) <;> try exact aC
      · exact OpSpec.mapN (C := [v = v]) rfl ⟨rfl, trivial⟩
    have hnat : ∀ sn : List Nat, sn.Nodup → (∀ x ∈ sn, x ∈ bs) → sn.length ≤ bs.length := fun sn h1 h2 => List.Nodup.length_le_of_subset h1 h2
    obtain ⟨fn, hfn⟩ : ∃ fn : Nat → Nm, ∀ bb, fn bb = ks.getD (bs.idxOf bb) [] := ⟨fun bb => ks.getD (bs.idxOf bb) [], fun _ => rfl⟩
    have h2 : bs.map fn = ks := by
      refine List.ext_getElem (by simp [hbl]) fun j h3 h4 => ?_
      have hj : j < bs.length := by simpa using h3
      rw [List.getElem_map, hfn]
      have : bs.idxOf bs[j] = j := (List.getElem_inj (h₀ := List.idxOf_lt_length_of_mem (List.getElem_mem hj)) (h₁ := hj) hbn).1 (List.getElem_idxOf (List.idxOf_lt_length_of_mem (List.getElem_mem hj)))
      rw [this]; simp [List.getD, List.getElem?_eq_getElem h4]
    refine S_while (α := List Nat) (fun sn => [(3, .map 1 0), (7, .ptr 2 0 0)]) (fun sn => [(v, some (.map (mapF ks (ndV st nd)) (some (bs, c0)))), (0, inBx (sn.map fn)), (0, some (.miter 0 v c0 sn c0))])
      (fun sn => sn.Nodup ∧ (∀ x ∈ sn, x ∈ bs) ∧ (sn.map fn).Nodup) (fun sn => bs.length - sn.length) [] ⟨.nil, (fun x h => by cases h), .nil⟩ (.cons rfl (.cons rfl (.nil _))) rfl ?_
    rintro sn ⟨hs1, hs2, hs3⟩
    refine pB [] rfl ?_
    refine S_mnext (id := 2) (ver := 0) (mid := 0) (mver := v) (since := c0) (last := c0) (c := c0) (seen := sn) (bs := bs) (kvs := mapF ks (ndV st nd)) rfl rfl rfl rfl (fun x hx => hbc x hx) (Nat.le_refl _) rfl rfl ?_ ?_
    · intro i bb hi2 hb hns
      have hi3 : i < ks.length := by simpa [mapF] using hi2
      have hkv : (mapF ks (ndV st nd))[i]? = some (.str ks[i], ndV st nd ks[i]) := by simp [mapF, List.getElem?_eq_getElem hi3]
      have hbm : bb ∈ bs := List.mem_of_getElem? hb
      have hn2 : (sn ++ [bb]).Nodup := List.nodup_append.2 ⟨hs1, by simp, fun x hx y hy => by simp at hy; subst hy; exact fun e => hns (e ▸ hx)⟩
      have hm2 : ∀ x ∈ sn ++ [bb], x ∈ bs := fun x hx => by
        rcases List.mem_append.1 hx with hx | hx
        · exact hs2 x hx
        · simp at hx; subst hx; exact hbm
      have hlen2 := hnat _ hn2 hm2
      rw [List.length_append] at hlen2
      have hlen2 : sn.length + 1 ≤ bs.length := hlen2
      have hfb : fn bb = ks[i] := by
        have hib : i < bs.length := by omega
        have h1 : bs.idxOf bb < bs.length := List.idxOf_lt_length_of_mem hbm
        have h2 : bs[bs.idxOf bb] = bb := List.getElem_idxOf h1
        rw [List.getElem?_eq_getElem hib] at hb
        have := (List.getElem_inj (h₀ := h1) (h₁ := hib) hbn).1 (h2.trans (Option.some.inj hb).symm)
        rw [hfn, this]; simp [List.getD, List.getElem?_eq_getElem hi3]
      have hmap : (sn ++ [bb]).map fn = sn.map fn ++ [ks[i]] := by rw [List.map_append, ← hfb]; rfl
      have hn3 : ((sn ++ [bb]).map fn).Nodup := by
        have hinj : ∀ a ∈ bs, ∀ c ∈ bs, fn a = fn c → a = c := fun a ha c hc e => by
          have h3 : (bs.map fn).Nodup := by rw [h2]; exact hks
          exact inj_map h3 ha hc e
        exact List.pairwise_map.2 (List.Pairwise.imp_of_mem (fun {a c} ha hc (hne : a ≠ c) e => hne (hinj a (hm2 a ha) c (hm2 c hc) e)) hn2)
      have hnew : ks[i] ∉ sn.map fn := by
        rw [hmap] at hn3
        exact fun h => (List.nodup_append.1 hn3).2.2 _ h _ (List.mem_singleton.2 rfl) rfl
      refine pa [.b true, .v (.tup [.str ks[i], ndV st nd ks[i]]), .f (.tup []) (fun _ => [(v, some (.map (mapF ks (ndV st nd)) (some (bs, c0)))), (0, inBx ((sn ++ [bb]).map fn)), (0, some (.miter 0 v c0 (sn ++ [bb]) c0))])] rfl ?_ ?_
      · (repeat' with_reducible apply AllP_cons) <;> try exact aC
        · exact OpSpec.entryG (id := 2) (ver := 0) (mid := 0) (mver := v) (since := c0) (c := c0) (i := i) (b := bb) (seen := sn) (bs := bs) rfl rfl rfl rfl hb hkv
        · refine OpSpec.mput (id := 1) (ver := 0) (ks := sn.map fn) (val := fun _ => .bool true) (s := ks[i]) (v := .bool true) rfl Tryd.underlying62 rfl rfl rfl rfl rfl hs3 ?_
          rw [updF_const, hmap]
          unfold addK
          rw [if_neg hnew]; rfl
      exact S_round (sn ++ [bb]) (by show bs.length - (sn ++ [bb]).length < bs.length - sn.length; rw [List.length_append]; show bs.length - (sn.length + 1) < _; omega) ⟨hn2, hm2, hn3⟩ (.cons rfl (.cons rfl (.nil _))) rfl
    · intro hall
      refine S_unstamp (id := 0) rfl ?_ ⟨.skip, _, .inr ⟨_, _, _, rfl⟩⟩
      refine pB [.b false] rfl ?_
      refine S_ret ⟨_, _, rfl, trivial, 2, Nat.le_succ 1, low2, _, .low (.map (by decide)), sn.map fn, ?_, rfl, rfl⟩
      have h1 : sn.Perm bs := (List.perm_ext_iff_of_nodup hs1 hbn).2 fun z => ⟨fun h => hs2 z h, fun h => hall z h⟩
      rw [← h2]; exact h1.map fn
theorem way_closed {nd : Nm → List Nm} {ps : List Nm} (hcl : ∀ x ∈ ps, ∀ k ∈ nd x, k ∈ ps) {a b : Nm} (h : Way (NeedR nd) a b) (ha : a ∈ ps) : b ∈ ps := by
  induction h with
  | one e => exact hcl _ ha _ e
  | cons e _ ih => exact ih (hcl _ ha _ e)
def ConeIs (nd : Nm → List Nm) (name : Nm) (ps : List Nm) : Prop := ps.Nodup ∧ ∀ x, x ∈ ps ↔ x = name ∨ Way (NeedR nd) name x
structure CoS where
  ps : List Nm
  dn : List Nm
  td : List Nm
  v : Nat
def coH (v : Nat) (st : Bool) (km : List Nm) (nd : Nm → List Nm) (sp : Option (List Nat × Nat)) (x : CoS) : Heap := [(v, some (.map (mapF km (ndV st nd)) sp)), (0, inBx x.ps), (x.v, some (.cells (texts (x.dn ++ x.td)) ⟨false, none⟩))]
structure CoI (km : List Nm) (nd : Nm → List Nm) (name : Nm) (x : CoS) : Prop where
  pn : x.ps.Nodup
  nm : name ∈ x.ps
  sub : ∀ y ∈ x.ps, y ∈ km
  way : ∀ y ∈ x.ps, y = name ∨ Way (NeedR nd) name y
  tn : x.td.Nodup
  ts : ∀ y ∈ x.td, y ∈ x.ps
  cl : ∀ y ∈ x.ps, y ∉ x.td → ∀ k ∈ nd y, k ∈ x.ps
theorem CoI.add {km : List Nm} {nd : Nm → List Nm} {name : Nm} {ps dn dn' r : List Nm} {n k : Nm} {v v' : Nat} (hK : CoI km nd name ⟨ps, dn, n :: r, v⟩) (hkn : k ∈ nd n) (hkk : k ∈ km) (hm : k ∉ ps) : CoI km nd name ⟨ps ++ [k], dn', n :: (r ++ [k]), v'⟩ := by
  have hkt : k ∉ n :: r := fun h => hm (hK.ts k h)
  refine ⟨?_, ?_, ?_, ?_, ?_, ?_, ?_⟩
  · exact List.nodup_append.2 ⟨hK.pn, by simp, fun a ha c hc e => by rw [List.mem_singleton.1 hc] at e; exact hm (e ▸ ha)⟩
  · exact List.mem_append_left _ hK.nm
  · intro y hy
    rcases List.mem_append.1 hy with hy | hy
    · exact hK.sub y hy
    · rw [List.mem_singleton.1 hy]; exact hkk
  · intro y hy
    rcases List.mem_append.1 hy with hy | hy
    · exact hK.way y hy
    · rw [List.mem_singleton.1 hy]
      rcases hK.way n (hK.ts n (List.mem_cons_self ..)) with e | e
      · subst e; exact .inr (.one hkn)
      · exact .inr (e.trans (.one hkn))
  · show (n :: r ++ [k]).Nodup
    exact List.nodup_append.2 ⟨hK.tn, by simp, fun a ha c hc e => by rw [List.mem_singleton.1 hc] at e; exact hkt (e ▸ ha)⟩
  · intro y hy
    have hy : y ∈ n :: r ++ [k] := hy
    rcases List.mem_append.1 hy with hy | hy
    · exact List.mem_append_left _ (hK.ts y hy)
    · exact List.mem_append_right _ hy
  · intro y hy hyn z hz
    have hyn : y ∉ n :: r ++ [k] := hyn
    rcases List.mem_append.1 hy with hy | hy
    · exact List.mem_append_left _ (hK.cl y hy (fun h => hyn (List.mem_append_left _ h)) z hz)
    · exact absurd (List.mem_append_right _ hy) hyn
theorem CoI.done {km : List Nm} {nd : Nm → List Nm} {name : Nm} {ps dn dn' r : List Nm} {n : Nm} {v v' : Nat} (hK : CoI km nd name ⟨ps, dn, n :: r, v⟩) (hall : ∀ k ∈ nd n, k ∈ ps) : CoI km nd name ⟨ps, dn', r, v'⟩ := by
  obtain ⟨hn1, hn2⟩ := List.nodup_cons.1 hK.tn
  refine ⟨hK.pn, hK.nm, hK.sub, hK.way, hn2, fun y hy => hK.ts y (List.mem_cons_of_mem _ hy), fun y hy hyn z hz => ?_⟩
  by_cases e : y = n
  · subst e; exact hall z hz
  · exact hK.cl y hy (fun h => by rcases List.mem_cons.1 h with h | h; exact e h; exact hyn h) z hz
theorem CoI.isCone {km : List Nm} {nd : Nm → List Nm} {name : Nm} {ps dn : List Nm} {v : Nat} (hI : CoI km nd name ⟨ps, dn, [], v⟩) : ConeIs nd name ps := ⟨hI.pn, fun x => ⟨hI.way x, by
  rintro (rfl | h)
  · exact hI.nm
  · exact way_closed (fun x hx k hk => hI.cl x hx (fun h => by cases h) k hk) h hI.nm⟩⟩
def inK (ps r : List Nm) : List Nm → List Nm × List Nm
  | [] => (ps, r)
  | k :: q => if k ∈ ps then inK ps r q else inK (ps ++ [k]) (r ++ [k]) q
def bfs (nd : Nm → List Nm) : Nat → List Nm → List Nm → List Nm
  | _, ps, [] => ps
  | 0, ps, _ => ps
  | f + 1, ps, n :: r => bfs nd f (inK ps r (nd n)).1 (inK ps r (nd n)).2
def bfsR (nd : Nm → List Nm) (km : List Nm) (name : Nm) : List Nm := bfs nd (km.length + 1) [name] [name]
theorem bfs_nil (nd : Nm → List Nm) (f : Nat) (ps : List Nm) : bfs nd f ps [] = ps := by cases f <;> rfl
theorem inK_inv {km : List Nm} {nd : Nm → List Nm} {name n : Nm} (hkm : ∀ k ∈ nd n, k ∈ km) : ∀ (q p ps r : List Nm), p ++ q = nd n → CoI km nd name ⟨ps, [], n :: r, 0⟩ → (∀ k ∈ p, k ∈ ps) →
    CoI km nd name ⟨(inK ps r q).1, [], (inK ps r q).2, 0⟩ ∧ (inK ps r q).2.length + ps.length = r.length + (inK ps r q).1.length
  | [], p, ps, r, hpq, hK, hp => by
    rw [List.append_nil] at hpq
    subst hpq
    exact ⟨hK.done hp, rfl⟩
  | k :: q, p, ps, r, hpq, hK, hp => by
    have hkn : k ∈ nd n := by rw [← hpq]; simp
    have hpq2 : (p ++ [k]) ++ q = nd n := by rw [← hpq]; simp
    unfold inK
    by_cases hm : k ∈ ps
    · rw [if_pos hm]
      exact inK_inv hkm q (p ++ [k]) ps r hpq2 hK (fun x hx => by
        rcases List.mem_append.1 hx with hx | hx
        · exact hp x hx
        · rw [List.mem_singleton.1 hx]; exact hm)
    · rw [if_neg hm]
      obtain ⟨h1, h2⟩ := inK_inv hkm q (p ++ [k]) (ps ++ [k]) (r ++ [k]) hpq2 (hK.add hkn (hkm k hkn) hm) (fun x hx => by
        rcases List.mem_append.1 hx with hx | hx
        · exact List.mem_append_left _ (hp x hx)
        · exact List.mem_append_right _ hx)
      refine ⟨h1, ?_⟩
      simp only [List.length_append, List.length_cons, List.length_nil] at h2
      omega
theorem bfs_is {km : List Nm} {nd : Nm → List Nm} {name : Nm} (hcl : ∀ n ∈ km, ∀ k ∈ nd n, k ∈ km) : ∀ (f : Nat) (ps td : List Nm), CoI km nd name ⟨ps, [], td, 0⟩ → km.length - ps.length + td.length ≤ f → ConeIs nd name (bfs nd f ps td)
  | f, ps, [], hI, _ => by rw [bfs_nil]; exact hI.isCone
  | 0, ps, n :: r, hI, hf => by simp at hf
  | f + 1, ps, n :: r, hI, hf => by
    have hnk : n ∈ km := hI.sub n (hI.ts n (List.mem_cons_self ..))
    obtain ⟨h1, h2⟩ := inK_inv (hcl n hnk) (nd n) [] ps r rfl hI (fun k hk => by cases hk)
    show ConeIs nd name (bfs nd f (inK ps r (nd n)).1 (inK ps r (nd n)).2)
    have h3 : (inK ps r (nd n)).1.length ≤ km.length := List.Nodup.length_le_of_subset h1.pn h1.sub
    have h4 : ps.length ≤ km.length := List.Nodup.length_le_of_subset hI.pn hI.sub
    refine bfs_is hcl f _ _ h1 ?_
    rw [List.length_cons] at hf
    omega
theorem coI_begin {km : List Nm} {nd : Nm → List Nm} {name : Nm} {dn : List Nm} {v : Nat} (hnm : name ∈ km) : CoI km nd name ⟨[name], dn, [name], v⟩ :=
  ⟨by simp, List.mem_singleton.2 rfl, fun y hy => by rw [List.mem_singleton.1 hy]; exact hnm, fun y hy => .inl (List.mem_singleton.1 hy), by simp, fun y hy => hy, fun y hy hn => absurd hy hn⟩
theorem bfsR_is {km : List Nm} {nd : Nm → List Nm} {name : Nm} (hnm : name ∈ km) (hcl : ∀ n ∈ km, ∀ k ∈ nd n, k ∈ km) : ConeIs nd name (bfsR nd km name) := bfs_is hcl _ _ _ (coI_begin hnm) (by simp)
theorem cone_ok (st : Bool) (v : Nat) (sp : Option (List Nat × Nat)) (km : List Nm) (nd : Nm → List Nm) (name : Nm) (hkm : km.Nodup) (hnm : name ∈ km) (hcl : ∀ n ∈ km, ∀ k ∈ nd n, k ∈ km) (hlk : km.length ≤ 1000) (hln : ∀ n, (nd n).length ≤ 1048576) :
    CallOk cx 39 [.map 0 v, .str name] [(v, some (.map (mapF km (ndV st nd)) sp))] (fun o s => o = .ret (.map 1 0) ∧ s = [(v, some (.map (mapF km (ndV st nd)) sp)), (0, inBx (bfsR nd km name))]) :=
  callOk_introT (fun a w => Tryd.call39 a w) Tryd.func39 rfl Tryd.ntmps39 rfl fun B => by
    refine pa [.f (.map 1 0) (fun _ => [(v, some (.map (mapF km (ndV st nd)) sp)), (0, some (.map [] (some ([], 0))))]), .s] rfl ?_ ?_
    · (repeat' with_reducible apply AllP_cons) <;> try exact aC
      · exact OpSpec.mapN rfl trivial
    refine S_unstamp (id := 1) rfl ?_ ⟨.skip, _, .inr ⟨_, _, _, rfl⟩⟩
    refine pago [13] [.f (.tup []) (fun _ => [(v, some (.map (mapF km (ndV st nd)) sp)), (0, inBx [name])])] rfl ?_ ?_
    · (repeat' with_reducible apply AllP_cons) <;> try exact aC
      · exact OpSpec.insert rfl (OpSpec.mput (id := 1) (ver := 0) (ks := []) (val := fun _ => .bool true) (s := name) (v := .bool true) rfl Tryd.underlying62 rfl rfl rfl rfl rfl .nil (by rw [updF_const]; rfl))
    refine S_unfull (t := 6) rfl ⟨_, _, .inl rfl⟩ ?_
    refine S_heap (coH v st km nd sp ⟨[name], [], [name], 0⟩) rfl ?_
    refine S_while (α := CoS) (fun x => [(0, .map 0 v), (5, .map 1 0), (6, .ms 2 x.v x.dn.length x.td.length 1 false)]) (fun x => coH v st km nd sp x) (fun x => CoI km nd name x ∧ ∃ f, km.length - x.ps.length + x.td.length ≤ f ∧ bfs nd f x.ps x.td = bfsR nd km name) (fun x => km.length - x.ps.length + x.td.length) ⟨[name], [], [name], 0⟩
      ⟨coI_begin hnm, km.length + 1, by simp, rfl⟩ (.cons rfl (.cons rfl (.cons rfl (.nil _)))) rfl ?_
    rintro ⟨ps, dn, td, w⟩ ⟨hI, f, hf, hbf⟩
    simp only at hf hbf
    generalize bfsR nd km name = R at *
    cases td with
    | nil =>
      refine pB [.b false] rfl ?_
      rw [bfs_nil] at hbf
      subst hbf
      exact S_ret ⟨_, _, rfl, trivial, 2, Nat.le_succ 1, low2, _, .low (.map (by decide)), rfl, rfl⟩
    | cons n td =>
      have c1 : decide ((((n :: td).length : Nat) : Int) > 0) = true := decide_eq_true (by rw [List.length_cons]; omega)
      have hnps : n ∈ ps := hI.ts n (List.mem_cons_self ..)
      have hnk : n ∈ km := hI.sub n hnps
      obtain ⟨f, rfl⟩ : ∃ f', f = f' + 1 := ⟨f - 1, by rw [List.length_cons] at hf; omega⟩
      have hbf : bfs nd f (inK ps td (nd n)).1 (inK ps td (nd n)).2 = R := hbf
      refine pa [.b true, .v .top, .v (.str n), .v (.sl st false 1 (texts (nd n)))] rfl ?_ ?_
      · (repeat' with_reducible apply AllP_cons) <;> try exact aC
        · show (List.drop (offN dn.length (mulN (Int.toNat 0) 1)) (texts (dn ++ n :: td)))[0]? = _
          rw [offN_eq, mulN_eq, List.getElem?_drop]
          show (texts (dn ++ n :: td))[dn.length + 0 * 1 + 0]? = _
          unfold texts
          simp
        · exact OpSpec.mgetS (id := 0) (ver := v) (ks := km) (val := ndV st nd) (s := n) (z := .nils) rfl Tryd.underlying57 rfl rfl rfl rfl rfl (by rw [if_pos hnk]; rfl)
      have htl := texts_len (nd n)
      have hlnn := hln n
      refine S_while (α := Nat × CoS) (fun s => [(0, .map 0 v), (5, .map 1 0), (6, .ms 2 s.2.v s.2.dn.length s.2.td.length 1 false), (23, .sl st false 1 (texts (nd n))), (24, .int .i64 ((texts (nd n)).length : Nat)), (25, .int .i64 (s.1 : Nat))]) (fun s => coH v st km nd sp s.2)
        (fun s => s.1 ≤ (nd n).length ∧ CoI km nd name s.2 ∧ (∃ r, s.2.td = n :: r ∧ inK s.2.ps r ((nd n).drop s.1) = inK ps td (nd n)) ∧ (∀ k ∈ (nd n).take s.1, k ∈ s.2.ps) ∧ s.2.td.length + ps.length = td.length + 1 + s.2.ps.length) (fun s => (nd n).length - s.1) (0, ⟨ps, dn, n :: td, w⟩)
        ⟨Nat.zero_le _, hI, ⟨td, rfl, rfl⟩, (fun k h => by cases h), rfl⟩ (.cons rfl (.cons rfl (.cons rfl (.cons rfl (.cons rfl (.cons rfl (.nil _))))))) rfl ?_
      rintro ⟨j, ⟨qs, en, ud, u⟩⟩ ⟨hj, hK, ⟨r, hr, hin⟩, hjk, hlen⟩
      simp only at hr hin
      subst hr
      have hql : qs.length ≤ km.length := List.Nodup.length_le_of_subset hK.pn hK.sub
      have hul : (n :: r).length ≤ km.length := List.Nodup.length_le_of_subset hK.tn (fun y hy => hK.sub y (hK.ts y hy))
      by_cases hjl : j < (nd n).length
      · have c2 : decide ((j : Int) < (((texts (nd n)).length : Nat) : Int)) = true := decide_eq_true (by omega)
        have c3 : (texts (nd n))[(j : Int).toNat]? = some (.str (nd n)[j]) := by rw [Int.toNat_natCast]; exact texts_get hjl
        have hkk : (nd n)[j] ∈ km := hcl n hnk _ (List.getElem_mem hjl)
        have hkn : (nd n)[j] ∈ nd n := List.getElem_mem hjl
        have htk : (nd n).take (j + 1) = (nd n).take j ++ [(nd n)[j]] := List.take_succ_eq_append_getElem hjl
        have hdk : (nd n).drop j = (nd n)[j] :: (nd n).drop (j + 1) := List.drop_eq_getElem_cons hjl
        generalize (nd n)[j] = k at *
        cases hb : decide (k ∈ qs) with
        | true =>
          have hm := of_decide_eq_true hb
          refine pa [.b true, .v (.str k), .v (.bool true), .b false] rfl ?_ ?_
          · (repeat' with_reducible apply AllP_cons) <;> try exact aC
            · exact OpSpec.mget (id := 1) (ver := 0) (ks := qs) (val := fun _ => .bool true) (s := k) (z := .bool false) rfl Tryd.underlying62 rfl rfl rfl rfl rfl (by rw [if_pos hm]; rfl)
          refine S_round (j + 1, ⟨qs, en, n :: r, u⟩) (by show (nd n).length - (j + 1) < (nd n).length - j; omega) ⟨hjl, hK, ⟨r, rfl, by rw [hdk, inK, if_pos hm] at hin; exact hin⟩, fun y hy => ?_, hlen⟩ (.cons rfl (.cons rfl (.cons rfl (.cons rfl (.cons rfl (.cons (ai64 (by omega) (by omega)) (.nil _))))))) rfl
          have hy : y ∈ (nd n).take (j + 1) := hy
          rw [htk] at hy
          rcases List.mem_append.1 hy with hy | hy
          · exact hjk y hy
          · rw [List.mem_singleton.1 hy]; exact hm
        | false =>
          have hm := of_decide_eq_false hb
          have hkt : k ∉ n :: r := fun h => hm (hK.ts k h)
          have htx : texts (n :: r ++ [k]) = texts (n :: r) ++ [.str k] := by unfold texts; simp
          refine pa [.b true, .v (.str k), .v (.bool false), .b true, .f (.tup []) (fun _ => [(v, some (.map (mapF km (ndV st nd)) sp)), (0, inBx (qs ++ [k])), (u, some (.cells (texts (en ++ n :: r)) ⟨false, none⟩))])] rfl ?_ ?_
          · (repeat' with_reducible apply AllP_cons) <;> try exact aC
            · exact OpSpec.mget (id := 1) (ver := 0) (ks := qs) (val := fun _ => .bool true) (s := k) (z := .bool false) rfl Tryd.underlying62 rfl rfl rfl rfl rfl (by rw [if_neg hm]; rfl)
            · refine OpSpec.mput (id := 1) (ver := 0) (ks := qs) (val := fun _ => .bool true) (s := k) (v := .bool true) rfl Tryd.underlying62 rfl rfl rfl rfl rfl hK.pn ?_
              rw [updF_const]
              unfold addK
              rw [if_neg hm]; rfl
            · show en.length + (n :: r).length * 1 = (texts (en ++ n :: r)).length
              rw [texts_len, List.length_append, Nat.mul_one]
            · show ((n :: r).length + 1) * 16 ≤ 140737488355328
              omega
            · show (n :: r).length + 1 ≤ 9223372036854775807
              omega
          have hd : dropA en.length (texts (en ++ n :: r)) = texts (n :: r) := by
            rw [dropA_eq]; unfold texts; rw [List.map_append, List.drop_left' (by simp)]
          have htag : ∀ (P : Program) (e off : Nat), tagOn P e off ⟨false, none⟩ = ⟨false, none⟩ := fun P e off => by unfold tagOn; cases off <;> rfl
          refine S_heap (coH v st km nd sp ⟨qs ++ [k], [], n :: r ++ [k], u + 1⟩) ?_ ?_
          · show [(v, some (Box.map (mapF km (ndV st nd)) sp)), (0, inBx (qs ++ [k])), (u + 1, some (.cells (dropA en.length (texts (en ++ n :: r)) ++ [.str k]) (tagOn cx.P 9 en.length ⟨false, none⟩)))] = _
            rw [hd, htag, ← htx]; rfl
          have hlr : (n :: r ++ [k]).length = (n :: r).length + 1 := by rw [List.length_append]; rfl
          have hlq : (qs ++ [k]).length = qs.length + 1 := by rw [List.length_append]; rfl
          refine S_round (j + 1, ⟨qs ++ [k], [], n :: r ++ [k], u + 1⟩) (by show (nd n).length - (j + 1) < (nd n).length - j; omega) ⟨hjl, hK.add hkn hkk hm, ⟨r ++ [k], rfl, by rw [hdk, inK, if_neg hm] at hin; exact hin⟩, fun y hy => ?_, ?_⟩
            (.cons rfl (.cons rfl (.cons (by show AV.ms 2 (u + 1) 0 ((n :: r).length + 1) 1 false = .ms 2 (u + 1) 0 (n :: r ++ [k]).length 1 false; rw [hlr]) (.cons rfl (.cons rfl (.cons (ai64 (by omega) (by omega)) (.nil _))))))) rfl
          · have hy : y ∈ (nd n).take (j + 1) := hy
            rw [htk] at hy
            rcases List.mem_append.1 hy with hy | hy
            · exact List.mem_append_left _ (hjk y hy)
            · exact List.mem_append_right _ hy
          · show (n :: r ++ [k]).length + ps.length = td.length + 1 + (qs ++ [k]).length
            have hlen : (n :: r).length + ps.length = td.length + 1 + qs.length := hlen
            rw [hlr, hlq]; omega
      · have hje : j = (nd n).length := by omega
        have c2 : decide ((j : Int) < (((texts (nd n)).length : Nat) : Int)) = false := decide_eq_false (by omega)
        have hlen : (n :: r).length + ps.length = td.length + 1 + qs.length := hlen
        rw [hje, List.take_length] at hjk
        refine pa [.b false] rfl ?_ ?_
        · (repeat' with_reducible apply AllP_cons) <;> try exact aC
          all_goals skip
        have e1 : (en ++ [n]) ++ r = en ++ n :: r := by rw [List.append_assoc]; rfl
        obtain ⟨hn1, hn2⟩ := List.nodup_cons.1 hK.tn
        refine S_round ⟨qs, en ++ [n], r, u⟩ (by show km.length - qs.length + r.length < km.length - ps.length + (n :: td).length; have := List.Nodup.length_le_of_subset hI.pn hI.sub; rw [List.length_cons] at hlen ⊢; have hpl : ps.length ≤ km.length := this; omega)
          ⟨hK.done hjk, f, ?_, ?_⟩ (.cons rfl (.cons rfl (.cons ?_ (.nil _)))) ?_
        · show km.length - qs.length + r.length ≤ f
          have hpl : ps.length ≤ km.length := List.Nodup.length_le_of_subset hI.pn hI.sub
          rw [List.length_cons] at hlen hf
          omega
        · show bfs nd f qs r = R
          rw [hje, List.drop_length, inK] at hin
          rw [← hin] at hbf
          exact hbf
        · show AV.ms 2 u (en.length + 1 * 1) (((n :: r).length : Int).toNat - 1) 1 false = .ms 2 u (en ++ [n]).length r.length 1 false
          have : (en ++ [n]).length = en.length + 1 := by rw [List.length_append]; rfl
          rw [this]
          have : (((n :: r).length : Nat) : Int).toNat - 1 = r.length := by rw [Int.toNat_natCast, List.length_cons]; omega
          rw [this]
        · show coH v st km nd sp ⟨qs, en, n :: r, u⟩ = coH v st km nd sp ⟨qs, en ++ [n], r, u⟩
          unfold coH
          rw [e1]
end Go.Proofs.YtnfalbdnkgaelaaDoor
end
section
set_option linter.unusedVariables false
set_option linter.unusedSimpArgs false
set_option maxRecDepth 20000
set_option maxHeartbeats 1000000
namespace Go.Proofs.YtnfalbdnkgaelaaDoor
open Go Go.Ab
def akE (l : List Tg) (name : Nm) : Nat := if nmE l = 0 then (if name ∈ nmsG l then 0 else 5) else nmE l
def akH (st : Bool) (l : List Tg) (name : Nm) : Heap := if akE l name = 0 then [(0, nmM st l)] else []
def akR (l : List Tg) (name : Nm) : AV := .tup [if akE l name = 0 then .map 0 0 else .nilm, .int .i64 (akE l name : Nat)]
theorem ak_ok {l : List Tg} {name : Nm} (h : akE l name = 0) : NmOk l ∧ name ∈ nmsG l := by
  unfold akE at h
  by_cases h1 : nmE l = 0
  · rw [if_pos h1] at h
    by_cases h2 : name ∈ nmsG l
    · exact ⟨nmE_ok.1 h1, h2⟩
    · rw [if_neg h2] at h; cases h
  · rw [if_neg h1] at h; exact absurd h h1
theorem nm_low {st : Bool} {l : List Tg} : LowH 1 [(0, nmM st l)] := LowH.of fun e he bx hbx => by
  have he : e ∈ ([(0, nmM st l)] : Heap) := he
  rw [List.mem_singleton.1 he] at hbx; cases hbx; exact ndV_low ..
theorem i64_ne {n : Nat} (h : n ≠ 0) : ((n : Int) != 0) = true := by simpa using h
theorem asked_ok (st st' fl : Bool) (l : List Tg) (name : Nm) (hl : l.length ≤ 1000000000) (hz : TgSz l) : CallOk cx 38 [.sl st' fl 5 (tgs st l), .str name] [] (fun e s => e = .ret (akR l name) ∧ s = akH st l name) :=
  callOk_introT (fun a w => Tryd.call38 a w) Tryd.func38 rfl Tryd.ntmps38 rfl fun B => by
    have hn := named_ok st st' fl l hl hz
    by_cases h : nmE l = 0
    · have hR : nmR l = .tup [.map 0 0, .int .i64 0] := by unfold nmR; rw [h]; rfl
      have hH : nmH st l = [(0, nmM st l)] := by unfold nmH; rw [if_pos h]
      rw [hR, hH] at hn
      by_cases hm : name ∈ nmsG l
      · have he : akE l name = 0 := by unfold akE; rw [if_pos h, if_pos hm]
        refine pa [.f (.tup [.map 0 0, .int .i64 0]) (fun _ => [(0, nmM st l)]), .b false, .v (.tup [ndV st (ndT l) name, .bool true]), .b false] rfl ?_ ?_
        · (repeat' with_reducible apply AllP_cons) <;> try exact aC
          · exact OpSpec.mget (id := 0) (ver := 0) (ks := nmsG l) (val := ndV st (ndT l)) (s := name) (z := .nils) rfl Tryd.underlying57 rfl rfl rfl rfl rfl (by rw [if_pos hm, decide_eq_true hm]; rfl)
        refine S_ret ⟨_, _, rfl, trivial, 1, Nat.zero_le _, nm_low, _, .low (.tup (fun a ha => by rcases List.mem_cons.1 ha with rfl | ha; exact .map (by decide); rw [List.mem_singleton.1 ha]; exact .int)), ?_, ?_⟩
        · unfold akR; rw [he]; rfl
        · unfold akH; rw [he]; rfl
      · have he : akE l name = 5 := by unfold akE; rw [if_pos h, if_neg hm]
        refine pa [.f (.tup [.map 0 0, .int .i64 0]) (fun _ => [(0, nmM st l)]), .b false, .v (.tup [.nils, .bool false]), .b true] rfl ?_ ?_
        · (repeat' with_reducible apply AllP_cons) <;> try exact aC
          · exact OpSpec.mget (id := 0) (ver := 0) (ks := nmsG l) (val := ndV st (ndT l)) (s := name) (z := .nils) rfl Tryd.underlying57 rfl rfl rfl rfl rfl (by rw [if_neg hm, decide_eq_false hm]; rfl)
        refine S_ret ⟨_, _, rfl, trivial, 0, Nat.zero_le _, LowH.of (fun e he => by cases he), _, .low (.tup (fun a ha => by rcases List.mem_cons.1 ha with rfl | ha; exact .nilm; rw [List.mem_singleton.1 ha]; exact .int)), ?_, ?_⟩
        · unfold akR; rw [he]; rfl
        · unfold akH; rw [he]; rfl
    · have he : akE l name = nmE l := by unfold akE; rw [if_neg h]
      have hR : nmR l = .tup [.nilm, .int .i64 (nmE l : Nat)] := by unfold nmR; rw [if_neg h]
      have hH : nmH st l = [] := by unfold nmH; rw [if_neg h]
      rw [hR, hH] at hn
      have hne := i64_ne h
      refine pB [.f (.tup [.nilm, .int .i64 (nmE l : Nat)]) (fun _ => []), .b true] rfl ?_
      refine S_ret ⟨_, _, rfl, trivial, 0, Nat.zero_le _, LowH.of (fun e he => by cases he), _, .low (.tup (fun a ha => by rcases List.mem_cons.1 ha with rfl | ha; exact .nilm; rw [List.mem_singleton.1 ha]; exact .int)), ?_, ?_⟩
      · unfold akR; rw [he, if_neg h]; rfl
      · unfold akH; rw [he, if_neg h]; rfl
theorem rdyG_perm {nd : Nm → List Nm} {p q : List Nm} (h : p.Perm q) (out : List Nm) : (rdyG nd p out).Perm (rdyG nd q out) := h.filter _
theorem ordG_perm {nd : Nm → List Nm} {p q : List Nm} (h : p.Perm q) : ∀ (f : Nat) (out : List Nm), ordG nd p f out = ordG nd q f out
  | 0, out => rfl
  | f + 1, out => by
    have : nextG nd p out = nextG nd q out := by unfold nextG; rw [sortT_eq (rdyG_perm h out)]
    rw [ordG, ordG, this]
    cases nextG nd q out with
    | none => rfl
    | some b => exact ordG_perm h f _
def ordL (l : List Tg) : List Nm := ordG (ndT l) (nmsG l) (nmsG l).length []
def oE (l : List Tg) : Nat := if nmE l = 0 then (if (ordL l).length = l.length then 0 else 10) else nmE l
def outAV (x : List Nm) (e : Nat) : AV := .tup [.sl true false 1 (texts (if e = 0 then x else [])), .int .i64 (e : Nat)]
theorem outAV_free (x : List Nm) (e : Nat) : Free true (outAV x e) := .tup (by
  intro a ha
  rcases List.mem_cons.1 ha with rfl | ha
  · exact .sl (fun _ => rfl) (texts_free _)
  · rw [List.mem_singleton.1 ha]; exact .int)
theorem outFz {σ : Heap} {x : List Nm} {e : Nat} : (e = 0 → Frz true σ (.tup [.sl true false 1 (texts x), .int .i64 0]) (outAV x e)) ∧ (e ≠ 0 → Frz true σ (.tup [.nils, .int .i64 (e : Nat)]) (outAV x e)) := by
  refine ⟨fun h => ?_, fun h => ?_⟩
  · subst h
    exact .refl (outAV_free x 0)
  · unfold outAV
    rw [if_neg h]
    refine .tup rfl fun i h1 h2 => ?_
    match i, h1, h2 with
    | 0, h1, h2 => exact .nils
    | 1, h1, h2 => exact .refl .int
    | i + 2, h1, h2 => simp at h1; omega
theorem Order_ok (st st' fl : Bool) (l : List Tg) (hl : l.length ≤ 1000000000) (hz : TgSz l) : Calc cx 12 [.sl st' fl 5 (tgs st l)] (outAV (ordL l) (oE l)) :=
  pure_intro (fun a w => Tryd.call12 a w) Tryd.func12 rfl Tryd.ntmps12 rfl (outAV_free _ _) fun B => by
    have hn := named_ok st st' fl l hl hz
    by_cases h : nmE l = 0
    · have hR : nmR l = .tup [.map 0 0, .int .i64 0] := by unfold nmR; rw [h]; rfl
      have hH : nmH st l = [(0, nmM st l)] := by unfold nmH; rw [if_pos h]
      rw [hR, hH] at hn
      have hok := nmE_ok.1 h
      refine pB [.f (.tup [.map 0 0, .int .i64 0]) (fun _ => [(0, nmM st l)]), .b false] rfl ?_
      refine S_call rfl rfl rfl (all_ok st 0 (nmsG l) (ndT l) hok.nd) (fun v σ' hv => ?_) (fun v σ' hv => ?_)
      case _ =>
        obtain ⟨ps, hp, h1, h2⟩ := hv
        cases h1; subst h2
        have hps : ps.length = l.length := by rw [hp.length_eq, nms_len]
        have ho := order_ok st 0 0 (nmsG l) ps (ndT l) hok.nd (hp.nodup_iff.2 hok.nd) (fun n hn => hp.mem_iff.1 hn) (fun n hn k hk => hp.mem_iff.2 (hok.ndT n (hp.mem_iff.1 hn) k hk)) (by rw [nms_len]; have := hok.len; omega) hz.ndT
        rw [ordG_perm hp, hp.length_eq, show ordG (ndT l) (nmsG l) (nmsG l).length [] = ordL l from rfl, nms_len] at ho
        cases hd : decide ((ordL l).length = l.length) with
        | true =>
          have he : oE l = 0 := by unfold oE; rw [if_pos h, if_pos (of_decide_eq_true hd)]
          refine pa [.k (.tup [.sl true false 1 (texts (ordL l)), .bool true]), .b false] rfl ?_ ?_
          · (repeat' with_reducible apply AllP_cons) <;> try exact aC
            · rw [hd] at ho; exact ho
          exact S_ret ⟨_, _, rfl, trivial, _, rfl, outFz.1 he⟩
        | false =>
          have he : oE l = 10 := by unfold oE; rw [if_pos h, if_neg (of_decide_eq_false hd)]
          refine pa [.k (.tup [.sl true false 1 (texts (ordL l)), .bool false]), .b true] rfl ?_ ?_
          · (repeat' with_reducible apply AllP_cons) <;> try exact aC
            · rw [hd] at ho; exact ho
          refine S_ret ⟨_, _, rfl, trivial, _, rfl, ?_⟩
          have := (outFz (σ := [(0, nmM st l), (0, inBx ps)]) (x := ordL l) (e := oE l)).2 (by rw [he]; decide)
          rw [he] at this ⊢
          exact this
      case _ =>
        obtain ⟨ps, hp, h1, h2⟩ := hv
        cases h1
    · have he : oE l = nmE l := by unfold oE; rw [if_neg h]
      have hR : nmR l = .tup [.nilm, .int .i64 (nmE l : Nat)] := by unfold nmR; rw [if_neg h]
      have hH : nmH st l = [] := by unfold nmH; rw [if_neg h]
      rw [hR, hH] at hn
      have hne := i64_ne h
      refine pB [.f (.tup [.nilm, .int .i64 (nmE l : Nat)]) (fun _ => []), .b true] rfl ?_
      refine S_ret ⟨_, _, rfl, trivial, _, rfl, ?_⟩
      have := (outFz (σ := []) (x := ordL l) (e := oE l)).2 (by rw [he]; exact h)
      rw [he] at this ⊢
      exact this
end Go.Proofs.YtnfalbdnkgaelaaDoor
end
section
set_option linter.unusedVariables false
set_option linter.unusedSimpArgs false
set_option maxRecDepth 20000
namespace Go.Proofs.YtnfalbdnkgaelaaDoor
open Go Go.Ab
def edG (l : List Tg) (i j : Nat) : Bool := match l[i]?, l[j]? with
  | some a, some b => decide (b.name ∈ a.needs)
  | _, _ => false
def rchG (l : List Tg) (i j : Nat) : Bool := warN (edG l) l.length i j
def coneP (l : List Tg) (at_ : Nat) : List Nat := (List.range l.length).filter fun i => i == at_ || rchG l at_ i
def nmAt (l : List Tg) (i : Nat) : Nm := match l[i]? with | some t => t.name | none => []
def coneG (l : List Tg) (at_ : Nat) : List Nm := (coneP l at_).map (nmAt l)
def atG (l : List Tg) (name : Nm) : Nat := (nmsG l).idxOf name
theorem nmAt_get {l : List Tg} {i : Nat} (h : i < l.length) : nmAt l i = l[i].name := by unfold nmAt; rw [List.getElem?_eq_getElem h]
theorem edG_iff {l : List Tg} {i j : Nat} : edG l i j = true ↔ ∃ (hi : i < l.length) (hj : j < l.length), l[j].name ∈ l[i].needs := by
  unfold edG
  constructor
  · intro h
    split at h
    · rename_i a b ha hb
      obtain ⟨hi, rfl⟩ := List.getElem?_eq_some_iff.1 ha
      obtain ⟨hj, rfl⟩ := List.getElem?_eq_some_iff.1 hb
      exact ⟨hi, hj, of_decide_eq_true h⟩
    · cases h
  · rintro ⟨hi, hj, h⟩
    rw [List.getElem?_eq_getElem hi, List.getElem?_eq_getElem hj]
    exact decide_eq_true h
theorem rchG_iff {l : List Tg} {i j : Nat} : rchG l i j = true ↔ Way (fun i j => edG l i j = true) i j := by
  unfold rchG
  rw [warN_iff (E := fun i j => edG l i j = true) (fun i j => Iff.rfl), ← way_in]
  intro i j h
  exact (edG_iff.1 h).2.1
theorem atG_lt {l : List Tg} {name : Nm} (h : name ∈ nmsG l) : atG l name < l.length := by
  have := List.idxOf_lt_length_of_mem h
  rw [nms_len] at this; exact this
theorem nmAt_at {l : List Tg} {name : Nm} (h : name ∈ nmsG l) : nmAt l (atG l name) = name := by
  have h1 := atG_lt h
  rw [nmAt_get h1, ← nms_get h1]
  exact List.getElem_idxOf (List.idxOf_lt_length_of_mem h)
theorem nmAt_mem {l : List Tg} {i : Nat} (h : i < l.length) : nmAt l i ∈ nmsG l := by
  rw [nmAt_get h]; exact List.mem_map_of_mem (List.getElem_mem h)
theorem nmAt_inj {l : List Tg} (hn : (nmsG l).Nodup) {i j : Nat} (hi : i < l.length) (hj : j < l.length) (h : nmAt l i = nmAt l j) : i = j := by
  rw [nmAt_get hi, nmAt_get hj, ← nms_get hi, ← nms_get hj] at h
  exact (List.getElem_inj hn).1 h
theorem atG_at {l : List Tg} (hn : (nmsG l).Nodup) {i : Nat} (hi : i < l.length) : atG l (nmAt l i) = i := nmAt_inj hn (atG_lt (nmAt_mem hi)) hi (nmAt_at (nmAt_mem hi))
theorem ndT_nm {l : List Tg} (hn : (nmsG l).Nodup) {i : Nat} (hi : i < l.length) : ndT l (nmAt l i) = l[i].needs := by rw [nmAt_get hi]; exact ndT_at hi hn
theorem way_nm {l : List Tg} (hok : NmOk l) {i j : Nat} (h : Way (fun i j => edG l i j = true) i j) : Way (NeedR (ndT l)) (nmAt l i) (nmAt l j) := by
  have one : ∀ {i j : Nat}, edG l i j = true → NeedR (ndT l) (nmAt l i) (nmAt l j) := fun {i j} h => by
    obtain ⟨hi, hj, hm⟩ := edG_iff.1 h
    unfold NeedR
    rw [ndT_nm hok.nd hi, nmAt_get hj]; exact hm
  induction h with
  | one h => exact .one (one h)
  | cons h _ ih => exact .cons (one h) ih
theorem way_pl {l : List Tg} (hok : NmOk l) {a b : Nm} (h : Way (NeedR (ndT l)) a b) : a ∈ nmsG l → b ∈ nmsG l ∧ Way (fun i j => edG l i j = true) (atG l a) (atG l b) := by
  have one : ∀ {a b : Nm}, a ∈ nmsG l → NeedR (ndT l) a b → b ∈ nmsG l ∧ edG l (atG l a) (atG l b) = true := fun {a b} ha h => by
    have hb := hok.ndT a ha b h
    refine ⟨hb, edG_iff.2 ⟨atG_lt ha, atG_lt hb, ?_⟩⟩
    unfold NeedR at h
    rw [← nmAt_get (atG_lt hb), nmAt_at hb, ← ndT_nm hok.nd (atG_lt ha), nmAt_at ha]
    exact h
  induction h with
  | one h => exact fun ha => ⟨(one ha h).1, .one (one ha h).2⟩
  | cons h _ ih =>
    intro ha
    obtain ⟨h1, h2⟩ := one ha h
    obtain ⟨h3, h4⟩ := ih h1
    exact ⟨h3, .cons h2 h4⟩
theorem rch_nm {l : List Tg} (hok : NmOk l) {i j : Nat} (hi : i < l.length) (hj : j < l.length) : rchG l i j = true ↔ Way (NeedR (ndT l)) (nmAt l i) (nmAt l j) := by
  rw [rchG_iff]
  refine ⟨way_nm hok, fun h => ?_⟩
  have := (way_pl hok h (nmAt_mem hi)).2
  rw [atG_at hok.nd hi, atG_at hok.nd hj] at this
  exact this
theorem coneP_mem {l : List Tg} {at_ i : Nat} : i ∈ coneP l at_ ↔ i < l.length ∧ (i = at_ ∨ rchG l at_ i = true) := by
  unfold coneP; rw [List.mem_filter, List.mem_range, Bool.or_eq_true, beq_iff_eq]
theorem coneG_nodup {l : List Tg} (hn : (nmsG l).Nodup) (at_ : Nat) : (coneG l at_).Nodup := by
  unfold coneG
  have h1 : (coneP l at_).Nodup := List.nodup_range.filter _
  exact List.pairwise_map.2 (List.Pairwise.imp_of_mem (fun {a c} ha hc (hne : a ≠ c) e => hne (nmAt_inj hn (coneP_mem.1 ha).1 (coneP_mem.1 hc).1 e)) h1)
theorem coneG_mem {l : List Tg} (hok : NmOk l) {at_ : Nat} (hat : at_ < l.length) (x : Nm) : x ∈ coneG l at_ ↔ x = nmAt l at_ ∨ Way (NeedR (ndT l)) (nmAt l at_) x := by
  unfold coneG
  rw [List.mem_map]
  constructor
  · rintro ⟨i, hi, rfl⟩
    obtain ⟨h1, h2 | h2⟩ := coneP_mem.1 hi
    · exact .inl (by rw [h2])
    · exact .inr ((rch_nm hok hat h1).1 h2)
  · rintro (h | h)
    · exact ⟨at_, coneP_mem.2 ⟨hat, .inl rfl⟩, h.symm⟩
    · obtain ⟨h1, h2⟩ := way_pl hok h (nmAt_mem hat)
      refine ⟨atG l x, coneP_mem.2 ⟨atG_lt h1, .inr ?_⟩, nmAt_at h1⟩
      rw [atG_at hok.nd hat] at h2
      exact rchG_iff.2 h2
theorem coneG_sub {l : List Tg} {at_ : Nat} : ∀ x ∈ coneG l at_, x ∈ nmsG l := fun x hx => by
  obtain ⟨i, hi, rfl⟩ := List.mem_map.1 hx
  exact nmAt_mem (coneP_mem.1 hi).1
theorem coneG_closed {l : List Tg} (hok : NmOk l) {at_ : Nat} (hat : at_ < l.length) : ∀ x ∈ coneG l at_, ∀ k ∈ ndT l x, k ∈ coneG l at_ := fun x hx k hk => by
  rw [coneG_mem hok hat] at hx ⊢
  rcases hx with rfl | h
  · exact .inr (.one hk)
  · exact .inr (h.trans (.one hk))
end Go.Proofs.YtnfalbdnkgaelaaDoor
end
section
set_option linter.unusedVariables false
set_option linter.unusedSimpArgs false
set_option maxRecDepth 20000
set_option maxHeartbeats 1000000
namespace Go.Proofs.YtnfalbdnkgaelaaDoor
open Go Go.Ab
def cnG (l : List Tg) (name : Nm) : List Nm := coneG l (atG l name)
def ordC (l : List Tg) (name : Nm) : List Nm := ordG (ndT l) (cnG l name) (cnG l name).length []
def cE (l : List Tg) (name : Nm) : Nat := if akE l name = 0 then (if (ordC l name).length = (cnG l name).length then 0 else 10) else akE l name
theorem cone_perm {l : List Tg} (hok : NmOk l) {name : Nm} (hn : name ∈ nmsG l) {ps : List Nm} (h : ConeIs (ndT l) name ps) : ps.Perm (cnG l name) := by
  refine (List.perm_ext_iff_of_nodup h.1 (coneG_nodup hok.nd _)).2 fun x => ?_
  show _ ↔ x ∈ coneG l (atG l name)
  rw [h.2 x, coneG_mem hok (atG_lt hn), nmAt_at hn]
theorem Cone_ok (st st' fl : Bool) (l : List Tg) (name : Nm) (hl : l.length ≤ 1000000000) (hz : TgSz l) : Calc cx 19 [.sl st' fl 5 (tgs st l), .str name] (outAV (ordC l name) (cE l name)) :=
  pure_intro (fun a w => Tryd.call19 a w) Tryd.func19 rfl Tryd.ntmps19 rfl (outAV_free _ _) fun B => by
    have hn := asked_ok st st' fl l name hl hz
    by_cases h : akE l name = 0
    · have hR : akR l name = .tup [.map 0 0, .int .i64 0] := by unfold akR; rw [h]; rfl
      have hH : akH st l name = [(0, nmM st l)] := by unfold akH; rw [if_pos h]
      rw [hR, hH] at hn
      obtain ⟨hok, hnm⟩ := ak_ok h
      refine pB [.f (.tup [.map 0 0, .int .i64 0]) (fun _ => [(0, nmM st l)]), .b false] rfl ?_
      have hci := bfsR_is hnm hok.ndT
      have hcc := cone_ok st 0 none (nmsG l) (ndT l) name hok.nd hnm hok.ndT (by rw [nms_len]; have := hok.len; omega) hz.ndT
      generalize bfsR (ndT l) (nmsG l) name = ps at *
      refine pB [.f (.map 1 0) (fun _ => [(0, nmM st l), (0, inBx ps)])] rfl ?_
      · have hp := cone_perm hok hnm hci
        have ho := order_ok st 0 0 (nmsG l) ps (ndT l) hok.nd hci.1 (fun n hn => coneG_sub n (hp.mem_iff.1 hn)) (fun n hn k hk => hp.mem_iff.2 (coneG_closed hok (atG_lt hnm) n (hp.mem_iff.1 hn) k hk)) (by rw [nms_len]; have := hok.len; omega) hz.ndT
        rw [ordG_perm hp, hp.length_eq, show ordG (ndT l) (cnG l name) (cnG l name).length [] = ordC l name from rfl] at ho
        cases hd : decide ((ordC l name).length = (cnG l name).length) with
        | true =>
          have he : cE l name = 0 := by unfold cE; rw [if_pos h, if_pos (of_decide_eq_true hd)]
          refine pa [.k (.tup [.sl true false 1 (texts (ordC l name)), .bool true]), .b false] rfl ?_ ?_
          · (repeat' with_reducible apply AllP_cons) <;> try exact aC
            · rw [hd] at ho; exact ho
          exact S_ret ⟨_, _, rfl, trivial, _, rfl, outFz.1 he⟩
        | false =>
          have he : cE l name = 10 := by unfold cE; rw [if_pos h, if_neg (of_decide_eq_false hd)]
          refine pa [.k (.tup [.sl true false 1 (texts (ordC l name)), .bool false]), .b true] rfl ?_ ?_
          · (repeat' with_reducible apply AllP_cons) <;> try exact aC
            · rw [hd] at ho; exact ho
          refine S_ret ⟨_, _, rfl, trivial, _, rfl, ?_⟩
          have := (outFz (σ := [(0, nmM st l), (0, inBx ps)]) (x := ordC l name) (e := cE l name)).2 (by rw [he]; decide)
          rw [he] at this ⊢
          exact this
    · have he : cE l name = akE l name := by unfold cE; rw [if_neg h]
      have hR : akR l name = .tup [.nilm, .int .i64 (akE l name : Nat)] := by unfold akR; rw [if_neg h]
      have hH : akH st l name = [] := by unfold akH; rw [if_neg h]
      rw [hR, hH] at hn
      have hne := i64_ne h
      refine pB [.f (.tup [.nilm, .int .i64 (akE l name : Nat)]) (fun _ => []), .b true] rfl ?_
      refine S_ret ⟨_, _, rfl, trivial, _, rfl, ?_⟩
      have := (outFz (σ := []) (x := ordC l name) (e := cE l name)).2 (by rw [he]; exact h)
      rw [he] at this ⊢
      exact this
theorem addK_mem (l : List Nm) (n : Nm) : n ∈ addK l n := by
  unfold addK; split
  · assumption
  · simp
theorem addK_sub {l : List Nm} {n q : Nm} (h : q ∈ l) : q ∈ addK l n := by
  unfold addK; split
  · exact h
  · exact List.mem_append_left _ h
theorem addK_nodup {l : List Nm} (h : l.Nodup) (n : Nm) : (addK l n).Nodup := by
  unfold addK; split
  · exact h
  · rename_i hn
    exact List.nodup_append.2 ⟨h, by simp, fun a ha c hc e => by rw [List.mem_singleton.1 hc] at e; exact hn (e ▸ ha)⟩
def dpK (n : Nm) : List Nm → (Nm → Nat) → Nm → Nat
  | [], D => D
  | k :: r, D => dpK n r (updN D n (max (D n) (D k + 1)))
def dpO (nd : Nm → List Nm) : List Nm → (Nm → Nat) → Nm → Nat
  | [], D => D
  | n :: r, D => dpO nd r (dpK n (nd n) D)
theorem dpK_snoc (n k : Nm) : ∀ (p : List Nm) (D : Nm → Nat), dpK n (p ++ [k]) D = updN (dpK n p D) n (max (dpK n p D n) (dpK n p D k + 1))
  | [], D => rfl
  | a :: p, D => dpK_snoc n k p _
theorem dpO_snoc (nd : Nm → List Nm) (n : Nm) : ∀ (p : List Nm) (D : Nm → Nat), dpO nd (p ++ [n]) D = dpK n (nd n) (dpO nd p D)
  | [], D => rfl
  | a :: p, D => dpO_snoc nd n p _
theorem dpK_le (n : Nm) {b : Nat} : ∀ (p : List Nm) (D : Nm → Nat), (∀ k, D k ≤ b) → ∀ k, dpK n p D k ≤ b + p.length
  | [], D, h, k => by rw [dpK]; have := h k; simp; omega
  | a :: p, D, h, k => by
    have := dpK_le n (b := b + 1) p (updN D n (max (D n) (D a + 1))) (fun x => by
      unfold updN
      split
      · have h1 := h n; have h2 := h a; omega
      · have := h x; omega) k
    rw [dpK, List.length_cons]; omega
theorem dpO_le (nd : Nm → List Nm) (hln : ∀ n, (nd n).length ≤ 1048576) {b : Nat} : ∀ (p : List Nm) (D : Nm → Nat), (∀ k, D k ≤ b) → ∀ k, dpO nd p D k ≤ b + p.length * 1048576
  | [], D, h, k => by rw [dpO]; have := h k; simp; omega
  | a :: p, D, h, k => by
    have h1 := dpK_le a (nd a) D h
    have h2 := dpO_le nd hln (b := b + 1048576) p (dpK a (nd a) D) (fun x => by have := h1 x; have := hln a; omega) k
    rw [dpO, List.length_cons, Nat.add_mul]; omega
def dpG (l : List Tg) (name : Nm) : Nat := if cE l name = 0 then dpO (ndT l) (ordC l name) (fun _ => 0) name else 0
theorem Depth_ok (st st' fl : Bool) (l : List Tg) (name : Nm) (hl : l.length ≤ 1000000000) (hz : TgSz l) : Calc cx 25 [.sl st' fl 5 (tgs st l), .str name] (.tup [.int .i64 (dpG l name : Nat), .int .i64 (cE l name : Nat)]) :=
  pure_intro (fun a w => Tryd.call25 a w) Tryd.func25 rfl Tryd.ntmps25 rfl (.tup (fun a ha => by rcases List.mem_cons.1 ha with rfl | ha; exact .int; rw [List.mem_singleton.1 ha]; exact .int)) fun B => by
    have hC := Cone_ok st st' fl l name hl hz
    have harg : ∀ σ : Heap, Frzs σ [.sl st' fl 5 (tgs st l), .str name] [.sl st' fl 5 (tgs st l), .str name] := fun σ => .cons (.refl (.sl (fun h => by cases h) (tgs_any (fun h => by cases h) l))) (.cons (.refl .str) (.nil _))
    by_cases h : cE l name = 0
    · have hak : akE l name = 0 := by
        unfold cE at h
        by_cases h2 : akE l name = 0
        · exact h2
        · rw [if_neg h2] at h; exact h
      obtain ⟨hok, hnm⟩ := ak_ok hak
      have hnm0 := nmE_ok.2 hok
      have hn := named_ok st st' fl l hl hz
      have hR : nmR l = .tup [.map 0 0, .int .i64 0] := by unfold nmR; rw [hnm0]; rfl
      have hH : nmH st l = [(0, nmM st l)] := by unfold nmH; rw [if_pos hnm0]
      rw [hR, hH] at hn
      have hO : outAV (ordC l name) (cE l name) = .tup [.sl true false 1 (texts (ordC l name)), .int .i64 0] := by unfold outAV; rw [h]; rfl
      rw [hO] at hC
      have hdp : dpG l name = dpO (ndT l) (ordC l name) (fun _ => 0) name := by unfold dpG; rw [if_pos h]
      have hol : (ordC l name).length ≤ 60 := by
        have h1 : (ordC l name).length = (cnG l name).length := by
          unfold cE at h
          rw [if_pos hak] at h
          by_cases h2 : (ordC l name).length = (cnG l name).length
          · exact h2
          · rw [if_neg h2] at h; cases h
        rw [h1]
        have h2 := List.Nodup.length_le_of_subset (coneG_nodup hok.nd (atG l name)) (l₂ := nmsG l) (fun x hx => coneG_sub x hx)
        have h3 := hok.len
        unfold cnG
        rw [nms_len] at h2; omega
      refine pa [.v (.tup [.sl true false 1 (texts (ordC l name)), .int .i64 0]), .b false, .f (.tup [.map 0 0, .int .i64 0]) (fun _ => [(0, nmM st l)]), .f (.map 1 0) (fun _ => [(0, nmM st l), (0, some (.map [] (some ([], 0))))])] rfl ?_ ?_
      · (repeat' with_reducible apply AllP_cons) <;> try exact aC
        · exact ⟨_, hC, harg _⟩
        · exact OpSpec.mapN rfl trivial
      refine S_unstamp (id := 1) rfl ?_ ⟨_, _, .inl rfl⟩
      have hosub : ∀ x ∈ ordC l name, x ∈ nmsG l := fun x hx => by
        have := (ord_good (needs := ndT l) (sm := cnG l name) (cnG l name).length [] .nil (fun n hn => by cases hn) (by simp)).2.1 x hx
        exact coneG_sub x this
      have hlnd := hz.ndT
      rw [hdp]
      rw [show nmM st l = mapBx (nmsG l) (ndV st (ndT l)) from rfl]
      generalize ordC l name = od at *
      generalize ndT l = nd at *
      have htl := texts_len od
      refine S_while (α := Nat × List Nm) (fun s => [(1, .str name), (8, .map 0 0), (10, .map 1 0), (30, .sl true false 1 (texts od)), (31, .int .i64 ((texts od).length : Nat)), (32, .int .i64 (s.1 : Nat))]) (fun s => [(0, mapBx (nmsG l) (ndV st nd)), (0, mapBx s.2 (wtV (dpO nd (od.take s.1) fun _ => 0)))])
        (fun s => s.1 ≤ od.length ∧ s.2.Nodup ∧ ∀ k, k ∉ s.2 → dpO nd (od.take s.1) (fun _ => 0) k = 0) (fun s => od.length - s.1) (0, []) ⟨Nat.zero_le _, .nil, fun k hk => rfl⟩ (.cons rfl (.cons rfl (.cons rfl (.cons rfl (.cons rfl (.cons rfl (.nil _))))))) rfl ?_
      rintro ⟨i, kd⟩ ⟨hi, hkd, hk0⟩
      simp only at hi hkd hk0
      by_cases hlt : i < od.length
      · have c1 : decide ((i : Int) < (((texts od).length : Nat) : Int)) = true := decide_eq_true (by omega)
        have c2 : (texts od)[(i : Int).toNat]? = some (.str od[i]) := by rw [Int.toNat_natCast]; exact texts_get hlt
        have hin := hosub _ (List.getElem_mem hlt)
        have htk : od.take (i + 1) = od.take i ++ [od[i]] := List.take_succ_eq_append_getElem hlt
        have hDb := dpO_le nd hlnd (b := 0) (od.take i) (fun _ => 0) (fun k => Nat.le_refl _)
        rw [List.length_take, Nat.min_eq_left (by omega)] at hDb
        generalize od[i] = n at *
        generalize hD0 : dpO nd (od.take i) (fun _ => 0) = D0 at *
        refine pa [.b true, .v (.str n), .v (.sl st false 1 (texts (nd n)))] rfl ?_ ?_
        · (repeat' with_reducible apply AllP_cons) <;> try exact aC
          · exact OpSpec.mget (id := 0) (ver := 0) (ks := nmsG l) (val := ndV st nd) (s := n) (z := .nils) rfl Tryd.underlying57 rfl rfl rfl rfl rfl (by rw [if_pos hin]; rfl)
        have hnl := texts_len (nd n)
        have hlnn := hlnd n
        have hDb2 := dpK_le n (b := i * 1048576) (D := D0)
        refine S_while (α := Nat × List Nm) (fun s => [(1, .str name), (8, .map 0 0), (10, .map 1 0), (30, .sl true false 1 (texts od)), (31, .int .i64 ((texts od).length : Nat)), (32, .int .i64 (i : Nat)), (12, .str n), (38, .sl st false 1 (texts (nd n))), (39, .int .i64 ((texts (nd n)).length : Nat)), (40, .int .i64 (s.1 : Nat))])
          (fun s => [(0, mapBx (nmsG l) (ndV st nd)), (0, mapBx s.2 (wtV (dpK n ((nd n).take s.1) D0)))])
          (fun s => s.1 ≤ (nd n).length ∧ s.2.Nodup ∧ ∀ k, k ∉ s.2 → dpK n ((nd n).take s.1) D0 k = 0) (fun s => (nd n).length - s.1) (0, kd) ⟨Nat.zero_le _, hkd, hk0⟩ (.cons rfl (.cons rfl (.cons rfl (.cons rfl (.cons rfl (.cons rfl (.cons rfl (.cons rfl (.cons rfl (.cons rfl (.nil _))))))))))) rfl ?_
        rintro ⟨j, kq⟩ ⟨hj, hkq, hq0⟩
        simp only at hj hkq hq0
        by_cases hjl : j < (nd n).length
        · have c3 : decide ((j : Int) < (((texts (nd n)).length : Nat) : Int)) = true := decide_eq_true (by omega)
          have c4 : (texts (nd n))[(j : Int).toNat]? = some (.str (nd n)[j]) := by rw [Int.toNat_natCast]; exact texts_get hjl
          have htk2 : (nd n).take (j + 1) = (nd n).take j ++ [(nd n)[j]] := List.take_succ_eq_append_getElem hjl
          have hb2 := hDb2 ((nd n).take j) (fun k => by have := hDb k; omega)
          generalize (nd n)[j] = k at *
          rw [List.length_take] at hb2
          have hnew := dpK_snoc n k ((nd n).take j) D0
          rw [← htk2] at hnew
          generalize hDD : dpK n ((nd n).take j) D0 = D at *
          have get2 : ∀ q, okV false (if q ∈ kq then wtV D q else .int .i64 0) (decide (q ∈ kq)) = .int .i64 (D q : Nat) := fun q => by
            show (if q ∈ kq then wtV D q else .int .i64 0) = _
            split
            · rfl
            · rename_i hnk
              rw [hq0 q hnk]; rfl
          have hbk := hb2 k
          have hbn := hb2 n
          refine pa [.b true, .v (.str k), .v (.int .i64 (D n : Nat)), .v (.int .i64 (D k : Nat)), .f (.tup []) (fun _ => [(0, mapBx (nmsG l) (ndV st nd)), (0, mapBx (addK kq n) (wtV (updN D n (max (D n) (D k + 1)))))])] rfl ?_ ?_
          · (repeat' with_reducible apply AllP_cons) <;> try exact aC
            · exact OpSpec.mget (id := 1) (ver := 0) (ks := kq) (val := wtV D) (s := n) (z := .int .i64 0) rfl Tryd.underlying69 rfl rfl rfl rfl rfl (get2 n)
            · exact OpSpec.mget (id := 1) (ver := 0) (ks := kq) (val := wtV D) (s := k) (z := .int .i64 0) rfl Tryd.underlying69 rfl rfl rfl rfl rfl (get2 k)
            · refine OpSpec.mput (id := 1) (ver := 0) (ks := kq) (val := wtV D) (s := n) (v := .int .i64 ((max (D n) (D k + 1) : Nat) : Int)) rfl Tryd.underlying69 rfl rfl rfl ?_ rfl hkq ?_
              · show AV.int .i64 (max (((D n : Nat) : Int)) (IntKind.i64.wrap (((D k : Nat) : Int) + 1))) = .int .i64 ((max (D n) (D k + 1) : Nat) : Int)
                rw [w64 (k := D k + 1) (by omega) (by omega)]
                congr 1; omega
              · rw [updF_wt]; rfl
          refine S_round (j + 1, addK kq n) (by show (nd n).length - (j + 1) < (nd n).length - j; omega) ⟨hjl, ?_, fun q hq => ?_⟩ (.cons rfl (.cons rfl (.cons rfl (.cons rfl (.cons rfl (.cons rfl (.cons rfl (.cons rfl (.cons rfl (.cons (ai64 (by omega) (by omega)) (.nil _))))))))))) (by show _ = [_, (0, mapBx (addK kq n) (wtV (dpK n ((nd n).take (j + 1)) D0)))]; rw [hnew])
          · exact addK_nodup hkq n
          · show dpK n ((nd n).take (j + 1)) D0 q = 0
            have hq : q ∉ addK kq n := hq
            rw [hnew]
            unfold updN
            rw [if_neg (fun e : q = n => hq (e ▸ addK_mem kq n))]
            exact hq0 q (fun h => hq (addK_sub h))
        · have hje : j = (nd n).length := by omega
          have c3 : decide ((j : Int) < (((texts (nd n)).length : Nat) : Int)) = false := decide_eq_false (by omega)
          rw [hje, List.take_length] at hq0
          refine pB [.b false] rfl ?_
          have e1 : dpO nd (od.take (i + 1)) (fun _ => 0) = dpK n (nd n) D0 := by rw [htk, dpO_snoc, hD0]
          refine S_round (i + 1, kq) (by show od.length - (i + 1) < od.length - i; omega) ⟨hlt, hkq, fun q hq => ?_⟩ (.cons rfl (.cons rfl (.cons rfl (.cons rfl (.cons rfl (.cons (ai64 (by omega) (by omega)) (.nil _))))))) ?_
          · show dpO nd (od.take (i + 1)) (fun _ => 0) q = 0
            rw [e1]; exact hq0 q hq
          · show [_, (0, mapBx kq (wtV (dpK n ((nd n).take j) D0)))] = [_, (0, mapBx kq (wtV (dpO nd (od.take (i + 1)) fun _ => 0)))]
            rw [e1, hje, List.take_length]
      · have hie : i = od.length := by omega
        have c1 : decide ((i : Int) < (((texts od).length : Nat) : Int)) = false := decide_eq_false (by omega)
        rw [hie, List.take_length] at hk0
        refine pa [.b false, .v (.int .i64 (dpO nd od (fun _ => 0) name : Nat))] rfl ?_ ?_
        · (repeat' with_reducible apply AllP_cons) <;> try exact aC
          · refine OpSpec.mget (id := 1) (ver := 0) (ks := kd) (val := wtV (dpO nd (od.take i) fun _ => 0)) (s := name) (z := .int .i64 0) rfl Tryd.underlying69 rfl rfl rfl rfl rfl ?_
            rw [hie, List.take_length]
            show (if name ∈ kd then wtV (dpO nd od fun _ => 0) name else .int .i64 0) = _
            split
            · rfl
            · rename_i hnk
              rw [hk0 name hnk]; rfl
        refine S_ret ⟨_, _, rfl, trivial, _, rfl, ?_⟩
        rw [h]
        exact .refl (.tup (fun a ha => by rcases List.mem_cons.1 ha with rfl | ha; exact .int; rw [List.mem_singleton.1 ha]; exact .int))
    · have hO : outAV (ordC l name) (cE l name) = .tup [.sl true false 1 [], .int .i64 (cE l name : Nat)] := by unfold outAV; rw [if_neg h]; rfl
      rw [hO] at hC
      have hne := i64_ne h
      refine pa [.v (.tup [.sl true false 1 [], .int .i64 (cE l name : Nat)]), .b true] rfl ?_ ?_
      · (repeat' with_reducible apply AllP_cons) <;> try exact aC
        · exact ⟨_, hC, harg _⟩
      refine S_ret ⟨_, _, rfl, trivial, _, rfl, ?_⟩
      have : dpG l name = 0 := by unfold dpG; rw [if_neg h]
      rw [this]
      exact .refl (.tup (fun a ha => by rcases List.mem_cons.1 ha with rfl | ha; exact .int; rw [List.mem_singleton.1 ha]; exact .int))
end Go.Proofs.YtnfalbdnkgaelaaDoor
end
section
set_option linter.unusedVariables false
set_option linter.unusedSimpArgs false
set_option maxRecDepth 20000
namespace Go.Proofs.YtnfalbdnkgaelaaDoor
open Go Go.Ab Go.Shelf Go.RowKit Go.Maps Go.Sort
def lay_sort_ren : Go.Shelf.Ren := ⟨fun | 6 => 42 | 8 => 62 | 9 => 61 | 19 => 79 | 20 => 80 | 21 => 70 | 22 => 71 | 23 => 72 | 24 => 73 | 25 => 74 | 26 => 75 | 27 => 76 | 28 => 77 | 29 => 78 | 36 => 84 | 31 => 85 | 32 => 86 | 37 => 87 | 38 => 88 | 39 => 89 | 41 => 98 | n => n, fun | 27 => 23 | 29 => 9 | 3 => 3 | 32 => 87 | 26 => 23 | 0 => 0 | 44 => 106 | 46 => 108 | 4 => 4 | 36 => 99 | 35 => 98 | 41 => 103 | 5 => 5 | 9 => 9 | 53 => 112 | 57 => 116 | 63 => 123 | 64 => 124 | n => n, fun | n => n⟩
theorem lay_sort : Go.Proofs.SlLaysM.n6 Tryd.prog lay_sort_ren := {
  mixed := by kernel_rfl
  f6 := ⟨Tryd.f42.name, by decide, Tryd.func42.trans (congrArg some (by kernel_rfl))⟩
  f8 := Tryd.func62.trans (congrArg some (by kernel_rfl))
  f9 := ⟨Tryd.f61.name, by decide, Tryd.func61.trans (congrArg some (by kernel_rfl))⟩
  f19 := Tryd.func79.trans (congrArg some (by kernel_rfl))
  f20 := Tryd.func80.trans (congrArg some (by kernel_rfl))
  f21 := ⟨Tryd.f70.name, by decide, Tryd.func70.trans (congrArg some (by kernel_rfl))⟩
  f22 := ⟨Tryd.f71.name, by decide, Tryd.func71.trans (congrArg some (by kernel_rfl))⟩
  f23 := ⟨Tryd.f72.name, by decide, Tryd.func72.trans (congrArg some (by kernel_rfl))⟩
  f24 := ⟨Tryd.f73.name, by decide, Tryd.func73.trans (congrArg some (by kernel_rfl))⟩
  f25 := ⟨Tryd.f74.name, by decide, Tryd.func74.trans (congrArg some (by kernel_rfl))⟩
  f26 := ⟨Tryd.f75.name, by decide, Tryd.func75.trans (congrArg some (by kernel_rfl))⟩
  f27 := ⟨Tryd.f76.name, by decide, Tryd.func76.trans (congrArg some (by kernel_rfl))⟩
  f28 := ⟨Tryd.f77.name, by decide, Tryd.func77.trans (congrArg some (by kernel_rfl))⟩
  f29 := ⟨Tryd.f78.name, by decide, Tryd.func78.trans (congrArg some (by kernel_rfl))⟩
  f31 := Tryd.func85.trans (congrArg some (by kernel_rfl))
  f32 := Tryd.func86.trans (congrArg some (by kernel_rfl))
  f36 := ⟨Tryd.f84.name, by decide, Tryd.func84.trans (congrArg some (by kernel_rfl))⟩
  f37 := ⟨Tryd.f87.name, by decide, Tryd.func87.trans (congrArg some (by kernel_rfl))⟩
  f38 := ⟨Tryd.f88.name, by decide, Tryd.func88.trans (congrArg some (by kernel_rfl))⟩
  f39 := ⟨Tryd.f89.name, by decide, Tryd.func89.trans (congrArg some (by kernel_rfl))⟩
  f41 := ⟨Tryd.f98.name, by decide, Tryd.func98.trans (congrArg some (by kernel_rfl))⟩
  t0 := Tryd.underlying0
  a0 := Tryd.isAgg0
  z0 := Tryd.sizeOf0
  v0 := Tryd.zeroValue0
  t3 := Tryd.underlying3
  a3 := Tryd.isAgg3
  z3 := Tryd.sizeOf3
  v3 := Tryd.zeroValue3
  t4 := Tryd.underlying4
  a4 := Tryd.isAgg4
  z4 := Tryd.sizeOf4
  v4 := Tryd.zeroValue4
  t5 := Tryd.underlying5
  a5 := Tryd.isAgg5
  z5 := Tryd.sizeOf5
  v5 := Tryd.zeroValue5
  t9 := Tryd.underlying9
  a9 := Tryd.isAgg9
  z9 := Tryd.sizeOf9
  v9 := Tryd.zeroValue9
  t26 := Tryd.underlying23
  a26 := Tryd.isAgg23
  z26 := Tryd.sizeOf23
  v26 := Tryd.zeroValue23
  t27 := Tryd.underlying23
  a27 := Tryd.isAgg23
  z27 := Tryd.sizeOf23
  v27 := Tryd.zeroValue23
  t29 := Tryd.underlying9
  a29 := Tryd.isAgg9
  z29 := Tryd.sizeOf9
  v29 := Tryd.zeroValue9
  t32 := Tryd.underlying87
  a32 := Tryd.isAgg87
  z32 := Tryd.sizeOf87
  v32 := Tryd.zeroValue87
  t35 := Tryd.underlying98
  a35 := Tryd.isAgg98
  z35 := Tryd.sizeOf98
  v35 := Tryd.zeroValue98
  t36 := Tryd.underlying99
  a36 := Tryd.isAgg99
  z36 := Tryd.sizeOf99
  v36 := Tryd.zeroValue99
  t41 := Tryd.underlying103
  a41 := Tryd.isAgg103
  z41 := Tryd.sizeOf103
  v41 := Tryd.zeroValue103
  t44 := Tryd.underlying106
  a44 := Tryd.isAgg106
  z44 := Tryd.sizeOf106
  v44 := Tryd.zeroValue106
  t46 := Tryd.underlying108
  a46 := Tryd.isAgg108
  z46 := Tryd.sizeOf108
  v46 := Tryd.zeroValue108
  t53 := Tryd.underlying112
  a53 := Tryd.isAgg112
  z53 := Tryd.sizeOf112
  v53 := Tryd.zeroValue112
  t57 := Tryd.underlying116
  a57 := Tryd.isAgg116
  z57 := Tryd.sizeOf116
  v57 := Tryd.zeroValue116
  t63 := Tryd.underlying123
  a63 := Tryd.isAgg123
  z63 := Tryd.sizeOf123
  v63 := Tryd.zeroValue123
  t64 := Tryd.underlying124
  a64 := Tryd.isAgg124
  z64 := Tryd.sizeOf124
  v64 := Tryd.zeroValue124 }
end Go.Proofs.YtnfalbdnkgaelaaDoor
end
section
set_option linter.unusedVariables false
set_option linter.unusedSimpArgs false
set_option maxRecDepth 20000
set_option maxHeartbeats 1000000
namespace Go.Proofs.YtnfalbdnkgaelaaDoor
open Go Go.Ab Go.Shelf Go.RowKit Go.Lib Go.Sort
theorem enc_str {r : Rl} {w : World} {v : Value} {s : List UInt8} (h : VRel r w v (.str s)) : v = Go.Proofs.encStr s := by
  cases h with
  | str hs =>
    rename_i x
    show Value.string _ = Value.string _
    rw [← hs]
theorem enc_strR (r : Rl) (w : World) (s : List UInt8) : VRel r w (Go.Proofs.encStr s) (.str s) := .str (by simp)
theorem SortS_ok (l : List (List UInt8)) (hlen : l.length ≤ 1000000) {σ : Heap} {id ver : Nat} (hσ : σ[id]? = some (ver, some (.cells (texts l) ⟨false, none⟩))) :
    CallOk cx 42 [.ms id ver 0 l.length 1 false] σ (fun e s => e = .ret (.tup []) ∧ s = σ.set id (ver, some (.cells (texts (sortT l)) ⟨false, none⟩))) := by
  refine ⟨fun a w => Tryd.call42 a w, fun r w vs hi hv => ?_⟩
  obtain ⟨hs, hv⟩ := hv
  have g0 := hv 0 (by simp)
  have hvs : vs = #[vs.getD 0 undef] := by
    have hs : vs.size = 1 := hs
    refine Array.ext (by simp [hs]) fun j h1 h2 => ?_
    match j, h1 with
    | 0, h1 => simp [Array.getD, h1]
    | j + 1, h1 => omega
  rw [hvs]
  generalize vs.getD 0 undef = a at g0
  have g0 : VRel r w a (.ms id ver 0 l.length 1 false) := g0
  have hln : (sortT l).length = l.length := (sortT_perm l).length_eq
  rcases Nat.eq_zero_or_pos l.length with h0 | h0
  · have hl0 : l = [] := List.eq_nil_of_length_eq_zero h0
    subst hl0
    have hset : σ.set id (ver, some (.cells (texts (sortT [])) ⟨false, none⟩)) = σ := by
      have : sortT [] = [] := List.nil_perm.1 (sortT_perm []).symm
      rw [this]
      apply List.ext_getElem?
      intro i
      rw [List.getElem?_set]
      by_cases e : id = i
      · subst e
        rw [if_pos rfl, hσ]
        have : id < σ.length := by
          rcases Nat.lt_or_ge id σ.length with h | h
          · exact h
          · rw [List.getElem?_eq_none h] at hσ; cases hσ
        rw [if_pos this]
      · rw [if_neg e]
    have hz : ∃ p cap, a = .slice p 0 cap := by
      cases g0 with
      | ms0 => exact ⟨_, _, rfl⟩
      | ms hρ hcap hle hff => exact ⟨_, _, rfl⟩
    obtain ⟨p, cap, rfl⟩ := hz
    rw [hset]
    refine (Go.Proofs.AnyM.slices_Sort_string_none lay_sort p cap w).mono ?_
    rintro e w' ⟨rfl, rfl⟩
    exact ⟨.ret (.tup []), σ, r, ⟨rfl, rfl⟩, .tup rfl (fun i h => absurd h (by simp)), hi, Ext.refl _ _ _⟩
  · generalize hn : l.length = n at g0
    cases g0 with
    | ms0 => omega
    | ms hρ hcap hle hff =>
    rename_i blk off cap
    rcases hi.box id ver _ hσ with ⟨blk', off', hρ', hbx⟩ | ⟨_, ro, h⟩
    case inr =>
      have h := Box.cells.inj h
      have := texts_len l
      rw [h.1] at this; simp at this; omega
    rw [hρ] at hρ'
    obtain ⟨rfl, rfl⟩ : blk = blk' ∧ off = off' := by cases hρ'; exact ⟨rfl, rfl⟩
    obtain ⟨c, t, lo, hi0, q1, q2, q3, q4, q5⟩ := hbx
    have hcl := texts_len l
    have hbs : blk < w.heap.size := (hi.lt _ _ _ _ hρ).2
    have hcell : ∀ j (hj : j < l.length), c[off + j]? = some (Go.Proofs.encStr l[j]) := by
      intro j hj
      obtain ⟨v, k1, k2⟩ := q2 j (by omega)
      have hg := texts_get hj
      rw [List.getElem?_eq_getElem (by omega)] at hg
      rw [Option.some.inj hg] at k2
      rw [k1, enc_str k2]
    have hH : Holds Go.Proofs.encStr w blk off l.toArray := by
      intro j hj
      have hj : j < l.length := by simpa using hj
      have hge : l.toArray[j]! = l[j] := by rw [getElem!_pos l.toArray j (by simpa using hj)]; simp
      refine ⟨by simp only [World.cell?, q1, hge]; exact hcell j hj, ?_⟩
      have hjc : off + j < c.size := by
        rcases Nat.lt_or_ge (off + j) c.size with h | h
        · exact h
        · have := hcell j hj
          rw [Array.getElem?_eq_none h] at this; cases this
      simp only [World.frozen?, q1]
      cases hz : (decide (lo ≤ off + j) && decide (off + j < hi0)) with
      | false => rfl
      | true =>
        simp only [Bool.and_eq_true, decide_eq_true_eq] at hz
        have := (q4 _ hz.1 hz.2 hjc).1
        cases this
    have hc := Go.Proofs.AnyM.slices_Sort_string lay_sort blk off cap l w hH hbs (by omega)
    rw [hn] at hc
    refine hc.mono ?_
    rintro e w' ⟨rfl, m, os, rfl⟩
    have hms : (l.mergeSort fun x y => decide (x ≤ y)) = sortT l := rfl
    rw [hms]
    have hheap : ∀ k, k < w.heap.size → (grow (putRow Go.Proofs.encStr (Sort.ahead w m) blk off (sortT l).toArray) os).heap[k]? = if blk = k then some (Obj.cells (putCells Go.Proofs.encStr off (sortT l).toArray c) t (lo, hi0)) else w.heap[k]? := by
      intro k hk
      show ((w.heap.modify blk (onCells (putCells Go.Proofs.encStr off (sortT l).toArray))) ++ os)[k]? = _
      rw [Array.getElem?_append_left (by simpa using hk), Array.getElem?_modify]
      by_cases e : blk = k
      · subst e
        rw [if_pos rfl, if_pos rfl, q1]; rfl
      · rw [if_neg e, if_neg e]
    have hupd := hi.update (σ' := σ.set id (ver, some (.cells (texts (sortT l)) ⟨false, none⟩))) (id := id) (ver := ver) (b := blk) (o := off) (x := .cells (texts (sortT l)) ⟨false, none⟩) (w' := grow (putRow Go.Proofs.encStr (Sort.ahead w m) blk off (sortT l).toArray) os)
      (by
        have : id < σ.length := by
          rcases Nat.lt_or_ge id σ.length with h | h
          · exact h
          · rw [List.getElem?_eq_none h] at hσ; cases hσ
        simp [this]) (fun j hj => by rw [List.getElem?_set, if_neg (Ne.symm hj)]) (fun c2 y hy => by rw [hσ] at hy; cases hy; exact .inr ⟨rfl, hρ⟩) (.inr ⟨ver, _, off, hσ, hρ⟩)
      (fun k hk hkb => by rw [hheap k hk, if_neg (Ne.symm hkb)]) (by
        show w.heap.size ≤ ((w.heap.modify blk (onCells (putCells Go.Proofs.encStr off (sortT l).toArray))) ++ os).size
        simp) (fun c2 t2 f2 hc2 => by
          rw [q1] at hc2; cases hc2
          exact ⟨_, _, by rw [hheap blk hbs, if_pos rfl], by simp [putCells]⟩) rfl rfl rfl
      (fun g => by
        refine ⟨_, t, lo, hi0, by rw [hheap blk hbs, if_pos rfl], fun i hil => ?_, texts_one _, fun i h1 h2 h3 => ?_, fun T h => by cases h⟩
        · have hil' : i < (sortT l).length := by rw [texts_len] at hil; exact hil
          have hg := texts_get hil'
          rw [List.getElem?_eq_getElem hil] at hg
          rw [Option.some.inj hg]
          refine ⟨Go.Proofs.encStr (sortT l)[i], ?_, enc_strR _ _ _⟩
          have hci : off + i < c.size := by
            have := hcell i (by omega)
            rcases Nat.lt_or_ge (off + i) c.size with h | h
            · exact h
            · rw [Array.getElem?_eq_none h] at this; cases this
          unfold putCells
          rw [Array.getElem?_mapIdx, Array.getElem?_eq_getElem hci]
          show some (if off ≤ off + i ∧ off + i < off + (sortT l).toArray.size then Go.Proofs.encStr ((sortT l).toArray[off + i - off]!) else _) = _
          rw [if_pos ⟨by omega, by simp; omega⟩, Nat.add_sub_cancel_left, getElem!_pos (sortT l).toArray i (by simpa using hil')]
          simp
        · have h3 : i < c.size := by simpa [putCells] using h3
          have := (q4 i h1 h2 h3).1
          cases this)
    exact ⟨.ret (.tup []), _, _, ⟨rfl, rfl⟩, .tup rfl (fun i h => absurd h (by simp)), hupd.1, hupd.2⟩
end Go.Proofs.YtnfalbdnkgaelaaDoor
end
section
set_option linter.unusedVariables false
set_option linter.unusedSimpArgs false
set_option maxRecDepth 20000
set_option maxHeartbeats 1000000
namespace Go.Proofs.YtnfalbdnkgaelaaDoor
open Go Go.Ab
theorem IndexFuncK_ok {st fl : Bool} (g : FuncId) (caps : List AV) (σ : Heap) (P : List UInt8 → Bool) (l : List (List UInt8)) (hg : ∀ s ∈ l, CallOk cx g ([] ++ [.str s] ++ caps) σ (fun e s' => e = .ret (.bool (P s)) ∧ s' = σ)) (hl : l.length ≤ 1000000000000) :
    CallOk cx 60 [.sl st fl 1 (texts l), .func (.func g) [] caps] σ (fun e s' => e = .ret (.int .i64 (match l.findIdx? P with | some i => (i : Int) | none => -1)) ∧ s' = σ) :=
  callOk_intro (fun a w => Tryd.call60 a w) Tryd.func60 rfl Tryd.ntmps60 rfl fun B => by
    have htl : (texts l).length = l.length := by simp [texts]
    refine pas [] rfl ?_ ?_
    · (repeat' with_reducible apply AllP_cons) <;> try exact aC
    refine S_while (α := Nat) (fun i => [(0, .sl st fl 1 (texts l)), (1, .func (.func g) [] caps), (7, .int .i64 (((texts l).length : Nat) : Int)), (8, .int .i64 (i : Nat))]) (fun _ => σ) (fun i => i ≤ l.length ∧ ∀ k (hk : k < l.length), k < i → P l[k] = false) (fun i => l.length - i) 0
      ⟨Nat.zero_le _, fun k hk h => absurd h (Nat.not_lt_zero _)⟩ (.cons rfl (.cons rfl (.cons rfl (.cons rfl (.nil _))))) rfl ?_
    rintro i ⟨hi, hN⟩
    have hi : i ≤ l.length := hi
    by_cases hlt : i < l.length
    · have e1 : decide ((i : Int) < (((texts l).length : Nat) : Int)) = true := decide_eq_true (by omega)
      have g1 : (texts l)[(i : Int).toNat]? = some (.str l[i]) := by rw [Int.toNat_natCast]; simp [texts, List.getElem?_eq_getElem hlt]
      have hF := hg l[i] (List.getElem_mem hlt)
      cases hb : P l[i] with
      | true =>
        rw [hb] at hF
        refine pas [.b true, .v (.str l[i]), .k (.bool true), .b true] rfl ?_ ?_
        · (repeat' with_reducible apply AllP_cons) <;> try exact aC
        refine S_ret ⟨_, _, rfl, trivial, ?_, rfl⟩
        have : l.findIdx? P = some i := by
          rw [List.findIdx?_eq_some_iff_getElem]
          exact ⟨hlt, by simpa using hb, fun j hj => by have := hN j (by omega) hj; simpa using this⟩
        rw [this]; rfl
      | false =>
        rw [hb] at hF
        refine pas [.b true, .v (.str l[i]), .k (.bool false), .b false] rfl ?_ ?_
        · (repeat' with_reducible apply AllP_cons) <;> try exact aC
        refine S_round (i + 1) (by show l.length - (i + 1) < l.length - i; omega) ⟨hlt, fun k hk h => ?_⟩ (.cons rfl (.cons rfl (.cons rfl (.cons (ai64 (by omega) (by omega)) (.nil _))))) rfl
        have h : k < i + 1 := h
        by_cases hki : k < i
        · exact hN k hk hki
        · have : k = i := by omega
          subst this; exact hb
    · have e1 : decide ((i : Int) < (((texts l).length : Nat) : Int)) = false := decide_eq_false (by omega)
      refine pas [.b false] rfl ?_ ?_
      · (repeat' with_reducible apply AllP_cons) <;> try exact aC
      refine S_ret ⟨_, _, rfl, trivial, ?_, rfl⟩
      have : l.findIdx? P = none := by
        rw [List.findIdx?_eq_none_iff]
        intro x hx
        obtain ⟨k, hk, rfl⟩ := List.getElem_of_mem hx
        have := hN k hk (by omega)
        simpa using this
      rw [this]; rfl
theorem ContainsFuncK_ok {st fl : Bool} (g : FuncId) (caps : List AV) (σ : Heap) (P : List UInt8 → Bool) (l : List (List UInt8)) (hg : ∀ s ∈ l, CallOk cx g ([] ++ [.str s] ++ caps) σ (fun e s' => e = .ret (.bool (P s)) ∧ s' = σ)) (hl : l.length ≤ 1000000000000) :
    CallOk cx 40 [.sl st fl 1 (texts l), .func (.func g) [] caps] σ (fun e s' => e = .ret (.bool (l.any P)) ∧ s' = σ) :=
  callOk_intro (fun a w => Tryd.call40 a w) Tryd.func40 rfl Tryd.ntmps40 rfl fun B => by
    have hI := IndexFuncK_ok (st := st) (fl := fl) g caps σ P l hg hl
    refine pas [.k (.int .i64 (match l.findIdx? P with | some i => (i : Int) | none => -1))] rfl ?_ ?_
    · (repeat' with_reducible apply AllP_cons) <;> try exact aC
    refine S_ret ⟨_, _, rfl, trivial, ?_, rfl⟩
    show Out.ret (AV.bool (decide ((match l.findIdx? P with | some i => (i : Int) | none => -1) ≥ 0))) = _
    congr 2
    cases h : l.findIdx? P with
    | none =>
      rw [List.findIdx?_eq_none_iff] at h
      rw [List.any_eq_false.2 (fun x hx => by have := h x hx; rw [this]; simp)]; rfl
    | some i =>
      rw [List.findIdx?_eq_some_iff_getElem] at h
      obtain ⟨h1, h2, _⟩ := h
      rw [List.any_eq_true.2 ⟨_, List.getElem_mem h1, h2⟩]
      simp
def usH (st : Bool) (l : List Tg) (name : Nm) (sp : Option (List Nat × Nat)) (τ : Heap) : Heap :=
  (0, some (.cells [.str name] ⟨false, none⟩)) :: (0, some (.map (mapF (nmsG l) (ndV st (ndT l))) sp)) :: (0, some (.cells [.map 1 0] ⟨false, none⟩)) :: τ
def usP (l : List Tg) (name k : Nm) : Bool := decide (name ∈ bfsR (ndT l) (nmsG l) k)
theorem us_rn (ids : List Nat) (st : Bool) (l : List Tg) (sp : Option (List Nat × Nat)) : RnB ids (.map (mapF (nmsG l) (ndV st (ndT l))) sp) (.map (mapF (nmsG l) (ndV st (ndT l))) sp) := .map rfl fun i h1 h2 => by
  have : (mapF (nmsG l) (ndV st (ndT l)))[i] ∈ mapF (nmsG l) (ndV st (ndT l)) := List.getElem_mem h1
  obtain ⟨q, _, e⟩ := List.mem_map.1 this
  rw [← e]
  exact ⟨.free .str, .free (.sl (fun h => by cases h) (texts_any _))⟩
theorem in_rn (ids : List Nat) (ps : List Nm) : RnB ids (.map (mapF ps fun _ => .bool true) none) (.map (mapF ps fun _ => .bool true) none) := .map rfl fun i h1 h2 => by
  have : (mapF ps fun _ => AV.bool true)[i] ∈ mapF ps fun _ => AV.bool true := List.getElem_mem h1
  obtain ⟨q, _, e⟩ := List.mem_map.1 this
  rw [← e]
  exact ⟨.free .str, .free .bool⟩
theorem us_low {st : Bool} {l : List Tg} {name : Nm} {sp : Option (List Nat × Nat)} {τ : Heap} : LowH 3 (usH st l name sp τ) := LowH.of fun e he bx hbx => by
  have he : e ∈ usH st l name sp [] := he
  rcases List.mem_cons.1 he with rfl | he
  · cases hbx; exact .cells (fun x hx => by rw [List.mem_singleton.1 hx]; exact .str)
  · rcases List.mem_cons.1 he with rfl | he
    · cases hbx; exact ndV_low ..
    · rw [List.mem_singleton.1 he] at hbx; cases hbx
      exact .cells (fun x hx => by rw [List.mem_singleton.1 hx]; exact .map (by decide))
theorem Users1_ok (st : Bool) (l : List Tg) (name k : Nm) (sp : Option (List Nat × Nat)) (hok : NmOk l) (hz : TgSz l) (hk : k ∈ nmsG l) : CallOk cx 41 [.str k, .ptr 2 0 0, .ptr 0 0 0] (usH st l name sp []) (fun e s => e = .ret (.bool (usP l name k)) ∧ s = usH st l name sp []) :=
  callOk_introT (fun a w => Tryd.call41 a w) Tryd.func41 rfl Tryd.ntmps41 rfl fun B => by
    have hc := cone_ok st 0 sp (nmsG l) (ndT l) k hok.nd hk hok.ndT (by rw [nms_len]; have := hok.len; omega) hz.ndT
    have hfr := CallOk.frame (σ := usH st l name sp []) (es := [(0, some (.map (mapF (nmsG l) (ndV st (ndT l))) sp)), (0, inBx (bfsR (ndT l) (nmsG l) k))]) (args' := [.map 1 0, .str k]) (x' := .map 3 0) [1] hc (.cons (.map rfl) (.cons (.free .str) (.nil _)))
      ⟨by decide, (fun j hj => by rw [List.mem_singleton.1 hj]; exact Nat.lt_of_lt_of_eq (by decide) (rfl : 3 = _)), rfl, (fun i j e hi he => by
        match i, hi, he with
        | 0, hi, he => cases hi; cases he; exact ⟨_, rfl, .live (us_rn ..)⟩
        | i + 1, hi, he => cases hi)⟩ (.cons (.live (us_rn ..)) (.cons (.live (in_rn ..)) (.nil _))) (.map rfl)
    refine pan 5 [] rfl ?_ ?_
    · (repeat' with_reducible apply AllP_cons) <;> try exact aC
    refine S_drawW (usH st l name sp [(0, inBx (bfsR (ndT l) (nmsG l) k))]) 2 5 [] [.map 3 0, .bool (usP l name k)] rfl rfl rfl rfl rfl ?_ ?_
    · (repeat' with_reducible apply AllP_cons) <;> try exact aC
      · refine OpSpec.mget (id := 3) (ver := 0) (ks := bfsR (ndT l) (nmsG l) k) (val := fun _ => .bool true) (s := name) (z := .bool false) rfl Tryd.underlying62 rfl rfl rfl rfl rfl ?_
        show (if name ∈ bfsR (ndT l) (nmsG l) k then AV.bool true else .bool false) = .bool (usP l name k)
        unfold usP
        split
        · rename_i h; rw [decide_eq_true h]
        · rename_i h; rw [decide_eq_false h]
    refine pB [] rfl ?_
    exact S_ret ⟨_, _, rfl, trivial, 3, Nat.le_refl 3, us_low, _, .low .bool, rfl, rfl⟩
def usQ (l : List Tg) (name n : Nm) : Bool := (ndT l n).any (usP l name)
def usrL (l : List Tg) (name : Nm) : List Nm := sortT ((nmsG l).filter (usQ l name))
theorem Users_ok (st st' fl : Bool) (l : List Tg) (name : Nm) (hl : l.length ≤ 1000000000) (hz : TgSz l) : Calc cx 22 [.sl st' fl 5 (tgs st l), .str name] (outAV (usrL l name) (akE l name)) :=
  pure_intro (fun a w => Tryd.call22 a w) Tryd.func22 rfl Tryd.ntmps22 rfl (outAV_free _ _) fun B => by
    have hn := asked_ok st st' fl l name hl hz
    have hfree : ∀ a ∈ [AV.sl st' fl 5 (tgs st l), .str name], Free false a := fun a ha => by
      rcases List.mem_cons.1 ha with rfl | ha
      · exact .sl (fun h => by cases h) (tgs_any (fun h => by cases h) l)
      · rw [List.mem_singleton.1 ha]; exact .str
    by_cases h : akE l name = 0
    · have hR : akR l name = .tup [.map 0 0, .int .i64 0] := by unfold akR; rw [h]; rfl
      have hH : akH st l name = [(0, nmM st l)] := by unfold akH; rw [if_pos h]
      rw [hR, hH] at hn
      obtain ⟨hok, hnm⟩ := ak_ok h
      have hn2 := CallOk.fresh (es := [(0, nmM st l)]) (x' := .tup [.map 1 0, .int .i64 0]) [(0, some (.cells [.str name] ⟨false, none⟩))] hn hfree (.cons (.live (us_rn ..)) (.nil _)) (.tup rfl fun i h1 h2 => by
        match i, h1, h2 with
        | 0, h1, h2 => exact .map rfl
        | 1, h1, h2 => exact .free .int
        | i + 2, h1, h2 => exact absurd h1 (by simp))
      refine pB [.f (.tup [.map 1 0, .int .i64 0]) (fun _ => [(0, some (.cells [.str name] ⟨false, none⟩)), (0, nmM st l)]), .b false] rfl ?_
      refine S_stamp (id := 1) rfl (fun bs c0 hbl hbn hbc => ?_) ⟨.skip, _, .inr ⟨_, _, _, rfl⟩⟩
      have hbl : bs.length = l.length := by rw [hbl]; unfold mapF; rw [List.length_map, nms_len]
      refine pa [.f (.ptr 3 0 0) (fun _ => usH st l name (some (bs, c0)) [(0, some (.miter 1 0 c0 [] c0))])] rfl ?_ ?_
      · (repeat' with_reducible apply AllP_cons) <;> try exact aC
        · exact OpSpec.mapN (C := [0 = 0]) rfl ⟨rfl, trivial⟩
      refine S_ghostF (t := 8) (gid := 4) (gver := 0) (σ' := usH st l name (some (bs, c0)) [(0, some (.miter 1 0 c0 [] c0)), (0, some (.cells [] ⟨false, none⟩))]) 1 ⟨false, none⟩ rfl rfl ⟨_, _, .inl rfl⟩ ?_
      have hnat : ∀ sn : List Nat, sn.Nodup → (∀ x ∈ sn, x ∈ bs) → sn.length ≤ bs.length := fun sn h1 h2 => List.Nodup.length_le_of_subset h1 h2
      obtain ⟨fn, hfn⟩ : ∃ fn : Nat → Nm, ∀ bb, fn bb = (nmsG l).getD (bs.idxOf bb) [] := ⟨fun bb => (nmsG l).getD (bs.idxOf bb) [], fun _ => rfl⟩
      have hl60 := hok.len
      refine S_while (α := List Nat × List Nm) (fun s => [(3, .ptr 0 0 0), (6, .ptr 2 0 0), (8, .ms 4 s.2.length 0 s.2.length 1 false), (21, .ptr 3 0 0)]) (fun s => usH st l name (some (bs, c0)) [(0, some (.miter 1 0 c0 s.1 c0)), (s.2.length, some (.cells (texts s.2) ⟨false, none⟩))])
        (fun s => s.1.Nodup ∧ (∀ x ∈ s.1, x ∈ bs) ∧ s.2 = (s.1.map fn).filter (usQ l name)) (fun s => bs.length - s.1.length) ([], []) ⟨.nil, (fun x h => by cases h), rfl⟩ (.cons rfl (.cons rfl (.cons rfl (.cons rfl (.nil _))))) rfl ?_
      rintro ⟨sn, os⟩ ⟨hs1, hs2, hos⟩
      simp only at hs1 hs2 hos
      have hosl : os.length ≤ 60 := by
        rw [hos]
        exact Nat.le_trans (List.length_filter_le _ _) (by rw [List.length_map]; have := hnat sn hs1 hs2; omega)
      refine pB [] rfl ?_
      refine S_mnext (id := 3) (ver := 0) (mid := 1) (mver := 0) (since := c0) (last := c0) (c := c0) (seen := sn) (bs := bs) (kvs := mapF (nmsG l) (ndV st (ndT l))) rfl rfl rfl rfl (fun x hx => hbc x hx) (Nat.le_refl _) rfl rfl ?_ ?_
      · intro i bb hi2 hb hns
        have hi3 : i < (nmsG l).length := by simpa [mapF] using hi2
        have hkv : (mapF (nmsG l) (ndV st (ndT l)))[i]? = some (.str (nmsG l)[i], ndV st (ndT l) (nmsG l)[i]) := by simp [mapF, List.getElem?_eq_getElem hi3]
        have hbm : bb ∈ bs := List.mem_of_getElem? hb
        have hn2 : (sn ++ [bb]).Nodup := List.nodup_append.2 ⟨hs1, by simp, fun x hx y hy => by simp at hy; subst hy; exact fun e => hns (e ▸ hx)⟩
        have hm2 : ∀ x ∈ sn ++ [bb], x ∈ bs := fun x hx => by
          rcases List.mem_append.1 hx with hx | hx
          · exact hs2 x hx
          · simp at hx; subst hx; exact hbm
        have hlen2 := hnat _ hn2 hm2
        rw [List.length_append] at hlen2
        have hlen2 : sn.length + 1 ≤ bs.length := hlen2
        have hfb : fn bb = (nmsG l)[i] := by
          have hib : i < bs.length := by omega
          have h1 : bs.idxOf bb < bs.length := List.idxOf_lt_length_of_mem hbm
          have h2 : bs[bs.idxOf bb] = bb := List.getElem_idxOf h1
          rw [List.getElem?_eq_getElem hib] at hb
          have := (List.getElem_inj (h₀ := h1) (h₁ := hib) hbn).1 (h2.trans (Option.some.inj hb).symm)
          rw [hfn, this]; simp [List.getD, List.getElem?_eq_getElem hi3]
        have hmap : (sn ++ [bb]).map fn = sn.map fn ++ [(nmsG l)[i]] := by rw [List.map_append, ← hfb]; rfl
        have hmem : (nmsG l)[i] ∈ nmsG l := List.getElem_mem hi3
        generalize (nmsG l)[i] = n at *
        have hCF : ∀ τ, CallOk cx 40 [.sl st false 1 (texts (ndT l n)), .func (.func 41) [] [.ptr 2 0 0, .ptr 0 0 0]] (usH st l name (some (bs, c0)) τ) (fun e s => e = .ret (.bool (usQ l name n)) ∧ s = usH st l name (some (bs, c0)) τ) := fun τ =>
          ContainsFuncK_ok (st := st) (fl := false) 41 [.ptr 2 0 0, .ptr 0 0 0] (usH st l name (some (bs, c0)) τ) (usP l name) (ndT l n) (fun k hk => by
            have hH : RnH (List.range 3) (usH st l name (some (bs, c0)) []) (usH st l name (some (bs, c0)) []) := .cons (.live (.cells (.cons (.free .str) (.nil _)))) (.cons (.live (us_rn ..)) (.cons (.live (.cells (.cons (.map rfl) (.nil _)))) (.nil _)))
            exact CallOk.pre1 3 τ (Users1_ok st l name k (some (bs, c0)) hok hz (hok.ndT n hmem k hk)) rfl rfl (.cons (.free .str) (.cons (.ptr rfl) (.cons (.ptr rfl) (.nil _)))) hH hH (.free .bool)) (by have := hz.ndT n; omega)
        cases hq : usQ l name n with
        | true =>
          have hfil : (sn ++ [bb]).map fn = sn.map fn ++ [n] := hmap
          have hos2 : os ++ [n] = ((sn ++ [bb]).map fn).filter (usQ l name) := by rw [hmap, List.filter_append, ← hos, List.filter_cons_of_pos hq, List.filter_nil]
          have htx : texts (os ++ [n]) = texts os ++ [.str n] := by unfold texts; simp
          have hC := hCF [(0, some (.miter 1 0 c0 (sn ++ [bb]) c0)), (os.length, some (.cells (texts os) ⟨false, none⟩))]
          rw [hq] at hC
          refine pa [.b true, .v (.tup [.str n, ndV st (ndT l) n]), .k (.bool true), .b true] rfl ?_ ?_
          · (repeat' with_reducible apply AllP_cons) <;> try exact aC
            · exact OpSpec.entryG (id := 3) (ver := 0) (mid := 1) (mver := 0) (since := c0) (c := c0) (i := i) (b := bb) (seen := sn) (bs := bs) rfl rfl rfl rfl hb hkv
            · show 0 + os.length * 1 = (texts os).length
              rw [texts_len]; omega
            · show (os.length + 1) * 16 ≤ 140737488355328
              omega
          have hol : (os ++ [n]).length = os.length + 1 := by rw [List.length_append]; rfl
          refine S_round (sn ++ [bb], os ++ [n]) (by show bs.length - (sn ++ [bb]).length < bs.length - sn.length; rw [List.length_append]; show bs.length - (sn.length + 1) < _; omega) ⟨hn2, hm2, hos2⟩
            (.cons rfl (.cons rfl (.cons (by show AV.ms 4 (os.length + 1) 0 (os.length + 1) 1 false = .ms 4 (os ++ [n]).length 0 (os ++ [n]).length 1 false; rw [hol]) (.cons rfl (.nil _))))) ?_
          show usH st l name (some (bs, c0)) [(0, some (.miter 1 0 c0 (sn ++ [bb]) c0)), (os.length + 1, some (.cells (texts os ++ [.str n]) ⟨false, none⟩))] = usH st l name (some (bs, c0)) [(0, some (.miter 1 0 c0 (sn ++ [bb]) c0)), ((os ++ [n]).length, some (.cells (texts (os ++ [n])) ⟨false, none⟩))]
          rw [hol, htx]
        | false =>
          have hC := hCF [(0, some (.miter 1 0 c0 (sn ++ [bb]) c0)), (os.length, some (.cells (texts os) ⟨false, none⟩))]
          rw [hq] at hC
          refine pa [.b true, .v (.tup [.str n, ndV st (ndT l) n]), .k (.bool false), .b false] rfl ?_ ?_
          · (repeat' with_reducible apply AllP_cons) <;> try exact aC
            · exact OpSpec.entryG (id := 3) (ver := 0) (mid := 1) (mver := 0) (since := c0) (c := c0) (i := i) (b := bb) (seen := sn) (bs := bs) rfl rfl rfl rfl hb hkv
          exact S_round (sn ++ [bb], os) (by show bs.length - (sn ++ [bb]).length < bs.length - sn.length; rw [List.length_append]; show bs.length - (sn.length + 1) < _; omega) ⟨hn2, hm2, by show os = ((sn ++ [bb]).map fn).filter (usQ l name); rw [hmap, List.filter_append, ← hos, List.filter_cons_of_neg (by rw [hq]; simp), List.filter_nil, List.append_nil]⟩ (.cons rfl (.cons rfl (.cons rfl (.cons rfl (.nil _))))) rfl
      · intro hall
        have hvp : (sn.map fn).Perm (nmsG l) := by
          have h1 : sn.Perm bs := (List.perm_ext_iff_of_nodup hs1 hbn).2 fun z => ⟨fun h => hs2 z h, fun h => hall z h⟩
          refine (h1.map fn).trans ?_
          have h2 : bs.map fn = nmsG l := by
            refine List.ext_getElem (by simp [hbl, nms_len]) fun j h3 h4 => ?_
            have hj : j < bs.length := by simpa using h3
            rw [List.getElem_map, hfn]
            have : bs.idxOf bs[j] = j := (List.getElem_inj (h₀ := List.idxOf_lt_length_of_mem (List.getElem_mem hj)) (h₁ := hj) hbn).1 (List.getElem_idxOf (List.idxOf_lt_length_of_mem (List.getElem_mem hj)))
            rw [this]; simp [List.getD, List.getElem?_eq_getElem h4]
          rw [h2]
        have hso : sortT os = usrL l name := by rw [hos]; exact sortT_eq (hvp.filter _)
        have hsl : (sortT os).length = os.length := (sortT_perm os).length_eq
        have hS := SortS_ok os (by omega) (σ := usH st l name (some (bs, c0)) [(0, some (.miter 1 0 c0 sn c0)), (os.length, some (.cells (texts os) ⟨false, none⟩))]) (id := 4) (ver := os.length) rfl
        rw [hso] at hS hsl
        refine pB [.b false, .f (.tup []) (fun _ => usH st l name (some (bs, c0)) [(0, some (.miter 1 0 c0 sn c0)), (os.length, some (.cells (texts (usrL l name)) ⟨false, none⟩))])] rfl ?_
        refine S_ret ⟨_, _, rfl, trivial, _, rfl, ?_⟩
        unfold outAV
        rw [h]
        refine .tup rfl fun i h1 h2 => ?_
        match i, h1, h2 with
        | 0, h1, h2 =>
          show Frz true _ (.ms 4 os.length 0 os.length 1 false) (.sl true false 1 (texts (usrL l name)))
          have hf : (texts (usrL l name)).flatMap AV.cells = texts (usrL l name) := ones_flat (texts_one _)
          refine .ms (cs := texts (usrL l name)) (ro := ⟨false, none⟩) rfl (by rw [texts_len, hsl]; omega) ?_ (fun x hx => by obtain ⟨t, _, rfl⟩ := List.mem_map.1 hx; rfl) (by rw [texts_len, hsl]) (texts_any _)
          rw [hf, List.drop_zero, Nat.mul_one]
          exact List.take_of_length_le (by rw [texts_len, hsl]; exact Nat.le_refl _)
        | 1, h1, h2 => exact .refl .int
        | i + 2, h1, h2 => exact absurd h1 (by simp [tupOf])
    · have hR : akR l name = .tup [.nilm, .int .i64 (akE l name : Nat)] := by unfold akR; rw [if_neg h]
      have hH : akH st l name = [] := by unfold akH; rw [if_neg h]
      rw [hR, hH] at hn
      have hne := i64_ne h
      have hn2 := CallOk.fresh (es := []) (x' := .tup [.nilm, .int .i64 (akE l name : Nat)]) [(0, some (.cells [.str name] ⟨false, none⟩))] hn hfree (.nil _) (.free (.tup (fun a ha => by rcases List.mem_cons.1 ha with rfl | ha; exact .nilm; rw [List.mem_singleton.1 ha]; exact .int)))
      refine pa [.f (.tup [.nilm, .int .i64 (akE l name : Nat)]) (fun _ => [(0, some (.cells [.str name] ⟨false, none⟩))]), .b true] rfl ?_ ?_
      · (repeat' with_reducible apply AllP_cons) <;> try exact aC
        all_goals skip
      refine S_ret ⟨_, _, rfl, trivial, _, rfl, ?_⟩
      exact outFz.2 h
end Go.Proofs.YtnfalbdnkgaelaaDoor
end
section
set_option linter.unusedVariables false
set_option linter.unusedSimpArgs false
set_option maxRecDepth 20000
namespace Go.Proofs.YtnfalbdnkgaelaaDoor
open Go Go.Ab
def leS (a b : List UInt8) : Bool := Op.bytesLess a b || a == b
end Go.Proofs.YtnfalbdnkgaelaaDoor
end
section
set_option linter.unusedVariables false
set_option linter.unusedSimpArgs false
set_option maxRecDepth 20000
namespace Go.Proofs.YtnfalbdnkgaelaaDoor
open Go Go.Ab
def splitB (c : UInt8) : List UInt8 → List (List UInt8)
  | [] => [[]]
  | x :: r => if x = c then [] :: splitB c r else match splitB c r with
    | [] => [[x]]
    | p :: ps => (x :: p) :: ps
theorem splitB_ne (c : UInt8) (l : List UInt8) : splitB c l ≠ [] := by
  cases l with
  | nil => simp [splitB]
  | cons x r =>
    rw [splitB]
    split
    · simp
    · split <;> simp
theorem split_none {c : UInt8} {l : List UInt8} (h : l.count c = 0) : splitB c l = [l] := by
  induction l with
  | nil => rfl
  | cons x r ih =>
    rw [List.count_cons] at h
    have hx : x ≠ c := by rintro rfl; simp at h
    rw [splitB, if_neg hx, ih (by omega)]
theorem split_at {c : UInt8} {l : List UInt8} (h : 0 < l.count c) : ∃ m : Nat, Lib.indexByte l c = m ∧ m < l.length ∧ splitB c l = l.take m :: splitB c (l.drop (m + 1)) ∧ l.count c = 1 + (l.drop (m + 1)).count c := by
  induction l with
  | nil => simp at h
  | cons x r ih =>
    by_cases hx : x = c
    · subst hx
      exact ⟨0, by simp [Lib.indexByte], by simp, by simp [splitB], by rw [List.count_cons]; simp [Nat.add_comm]⟩
    · have h' : 0 < r.count c := by rw [List.count_cons, if_neg (by simpa using hx)] at h; omega
      obtain ⟨m, h1, h2, h3, h4⟩ := ih h'
      refine ⟨m + 1, ?_, by simp; omega, ?_, ?_⟩
      · rw [Lib.indexByte, if_neg (by simpa using hx), if_neg (by rw [h1]; simp), h1]; rfl
      · rw [splitB, if_neg hx, h3]; rfl
      · rw [List.count_cons, if_neg (by simpa using hx), h4]; simp
theorem split_len (c : UInt8) (l : List UInt8) : (splitB c l).length = l.count c + 1 := by
  induction l with
  | nil => rfl
  | cons x r ih =>
    rw [splitB, List.count_cons]
    split
    · rename_i h; subst h; simp [ih]
    · rename_i h
      rw [if_neg (by simpa using h)]
      split
      · rename_i h2; exact absurd h2 (splitB_ne _ _)
      · rename_i h2; rw [h2] at ih; simpa using ih
theorem split_part {c : UInt8} {l : List UInt8} : ∀ p ∈ splitB c l, p.length ≤ l.length := by
  induction l with
  | nil => intro p hp; simp [splitB] at hp; subst hp; simp
  | cons x r ih =>
    intro p hp
    rw [splitB] at hp
    split at hp
    · rcases List.mem_cons.1 hp with rfl | hp
      · simp
      · have := ih p hp; simp; omega
    · split at hp
      · simp at hp; subst hp; simp
      · rename_i q qs hq
        rw [hq] at ih
        rcases List.mem_cons.1 hp with rfl | hp
        · have := ih q (List.mem_cons_self ..); simp; omega
        · have := ih p (List.mem_cons_of_mem _ hp); simp; omega
theorem set_at {α : Type} (a : List α) (x y : α) (b : List α) : (a ++ y :: b).set a.length x = a ++ x :: b := by
  induction a with
  | nil => rfl
  | cons z a ih => simp [ih]
theorem toU8_self (c : UInt8) : (c.toNat : Int).toNat.toUInt8 = c := by
  rw [Int.toNat_natCast]; simp
theorem cst' (s : List UInt8) (c : Int) (r : Rl) (w : World) (vs : Array Value) (h : VRels r w vs [.str s, .int .u8 c]) :
    ∃ v, (callFunc 101 vs).run cx.P w = .ok (.value v) w ∧ VRel r w v (.int .i64 (Lib.countByte s c.toNat.toUInt8 : Nat)) := by
  obtain ⟨hs, hv⟩ := h
  obtain ⟨x, y, rfl⟩ : ∃ x y, vs = #[x, y] := by
    rcases vs with ⟨l⟩
    match l, hs with
    | [x, y], _ => exact ⟨x, y, rfl⟩
  have h0 := hv 0 (by simp)
  have h1 := hv 1 (by simp)
  simp only [List.getElem_cons_zero, List.getElem_cons_succ] at h0 h1
  have h0 : VRel r w x (.str s) := h0
  have h1 : VRel r w y (.int .u8 c) := h1
  cases h0 with
  | str h =>
    subst h
    cases h1
    refine ⟨_, ?_, .int⟩
    show (callFunc 101 _).run Tryd.prog w = _
    rw [run_callFunc_extern Tryd.func101 rfl rfl rfl (e := Extern.BytealgCount.count) rfl, Lib.run_countString]
    rfl
theorem sIndex_ok (s : List UInt8) (c : UInt8) : Calc cx 102 [.str s, .str [c]] (.int .i64 (Lib.indexByte s c)) :=
  pure_intro (fun a w => Tryd.call102 a w) Tryd.func102 rfl Tryd.ntmps102 rfl .int fun B => by
    refine ab 1000 rfl trivial ?_
    refine S_guard rfl rfl rfl rfl (fun h => by cases h) (fun _ => ?_)
    refine ab 1000 rfl trivial ?_
    by_cases he : s = [c]
    · subst he
      refine S_cond (b := true) (by show AV.bool (([c] : List UInt8) == [c]) = _; simp) (fun _ => ?_) (fun h => by cases h)
      refine ab 1000 rfl trivial ?_
      refine S_retc .int rfl trivial ?_
      show AV.int .i64 0 = _
      simp [Lib.indexByte]
    refine S_cond (b := false) (by show AV.bool (([c] : List UInt8) == s) = _; rw [beq_eq_false_iff_ne.2 (fun h => he h.symm)]) (fun h => by cases h) (fun _ => ?_)
    refine ab 1000 rfl trivial ?_
    refine S_cond (b := true) rfl (fun _ => ?_) (fun h => by cases h)
    refine ab 1000 rfl ⟨Int.zero_lt_one, Int.le_refl _, trivial⟩ ?_
    refine S_pure rfl rfl rfl (indexByteS_ok s (c.toNat : Int)) (.cons (.refl .str) (.cons (.refl .int) (.nil _))) ?_
    rw [toU8_self]
    refine ab 1000 rfl trivial ?_
    exact S_retc .int rfl trivial rfl
theorem index_ok (s : List UInt8) (c : UInt8) : Calc cx 93 [.str s, .str [c]] (.int .i64 (Lib.indexByte s c)) :=
  pure_intro (fun a w => Tryd.call93 a w) Tryd.func93 rfl Tryd.ntmps93 rfl .int fun B => by
    refine ab 1000 rfl trivial ?_
    refine S_pure rfl rfl rfl (sIndex_ok s c) (.cons (.refl .str) (.cons (.refl .str) (.nil _))) ?_
    refine ab 1000 rfl trivial ?_
    exact S_retc .int rfl trivial rfl
theorem count_ok (s : List UInt8) (c : UInt8) : Calc cx 92 [.str s, .str [c]] (.int .i64 (s.count c : Nat)) :=
  pure_intro (fun a w => Tryd.call92 a w) Tryd.func92 rfl Tryd.ntmps92 rfl .int fun B => by
    refine ab 1000 rfl trivial ?_
    refine S_cond (b := false) rfl (fun h => by cases h) (fun _ => ?_)
    refine ab 1000 rfl trivial ?_
    refine S_cond (b := true) rfl (fun _ => ?_) (fun h => by cases h)
    refine ab 1000 rfl ⟨Int.zero_lt_one, Int.le_refl _, trivial⟩ ?_
    refine S_ext (cst' s (c.toNat : Int)) rfl rfl rfl ?_
    rw [toU8_self]
    refine ab 1000 rfl trivial ?_
    exact S_retc .int rfl trivial rfl
theorem genSplit_ok (s : List UInt8) (c : UInt8) (hs : s.length ≤ 1099511627776) : Calc cx 82 [.str s, .str [c], .int .i64 0, .int .i64 (-1)] (.sl true false 1 (texts (splitB c s))) :=
  pure_intro (fun a w => Tryd.call82 a w) Tryd.func82 rfl Tryd.ntmps82 rfl (.sl (fun _ => rfl) (texts_any _)) fun B => by
    have hcl : s.count c ≤ s.length := List.count_le_length
    refine ab 1000 rfl trivial ?_
    refine S_cond (b := false) rfl (fun h => by cases h) (fun _ => ?_)
    refine ab 1000 rfl trivial ?_
    refine S_cond (b := false) rfl (fun h => by cases h) (fun _ => ?_)
    refine ab 1000 rfl trivial ?_
    refine S_cond (b := true) rfl (fun _ => ?_) (fun h => by cases h)
    refine ab 1000 rfl trivial ?_
    refine S_pure rfl rfl rfl (count_ok s c) (.cons (.refl .str) (.cons (.refl .str) (.nil _))) ?_
    have hw1 : IntKind.i64.wrap ((s.count c : Nat) + 1 : Int) = ((s.count c + 1 : Nat) : Int) := w64 (by omega) (by omega)
    have hw2 : IntKind.i64.wrap ((s.length : Nat) + 1 : Int) = ((s.length + 1 : Nat) : Int) := w64 (by omega) (by omega)
    have hmin : min (IntKind.i64.wrap ((s.count c : Nat) + 1 : Int)) (IntKind.i64.wrap ((s.length : Nat) + 1 : Int)) = ((s.count c + 1 : Nat) : Int) := by rw [hw1, hw2]; omega
    refine ab 1000 rfl ⟨?_, ?_, ?_, ?_, trivial⟩ ?_
    · rw [hmin]; omega
    · show (16 : Nat) * _ ≤ (281474976710656 : Int)
      rw [hmin]; omega
    · omega
    · rw [hmin]; omega
    have hw3 : IntKind.i64.wrap (((s.count c + 1 : Nat) : Int) - 1) = ((s.count c : Nat) : Int) := w64 (by omega) (by omega)
    refine S_while (α := Nat × List (List UInt8) × List UInt8) (fun (i, done, r) => [(0, .str r), (1, .str [c]), (2, .int .i64 0), (3, .int .i64 (s.count c : Nat)), (9, .ms 0 0 0 (s.count c + 1) 1 false), (10, .int .i64 (i : Nat))])
      (fun (i, done, r) => [(0, some (.cells (texts done ++ List.replicate (s.count c + 1 - i) (.str [])) ⟨false, none⟩))])
      (fun (i, done, r) => done.length = i ∧ i + r.count c = s.count c ∧ r.length ≤ s.length ∧ done ++ splitB c r = splitB c s) (fun (i, done, r) => s.count c - i) (0, [], s)
      ⟨rfl, by omega, Nat.le_refl _, rfl⟩ (.cons rfl (.cons rfl (.cons rfl (.cons ?_ (.cons ?_ (.cons rfl (.nil _))))))) ?_ ?_
    · show AV.int .i64 (IntKind.i64.wrap (min (IntKind.i64.wrap ((s.count c : Nat) + 1 : Int)) (IntKind.i64.wrap ((s.length : Nat) + 1 : Int)) - 1)) = _
      rw [hmin, hw3]
    · show AV.ms 0 0 0 (min (IntKind.i64.wrap ((s.count c : Nat) + 1 : Int)) (IntKind.i64.wrap ((s.length : Nat) + 1 : Int))).toNat 1 false = _
      rw [hmin, Int.toNat_natCast]
    · show [(0, some (Box.cells (List.replicate (min (IntKind.i64.wrap ((s.count c : Nat) + 1 : Int)) (IntKind.i64.wrap ((s.length : Nat) + 1 : Int))).toNat (AV.str [])) ⟨false, none⟩))] = _
      rw [hmin, Int.toNat_natCast]; rfl
    rintro ⟨i, done, r⟩ ⟨h1, h2, h3, h4⟩
    have hdl : (texts done).length = i := by simp [texts, h1]
    have fin : ∀ k, k < s.count c + 1 → List.replicate (s.count c + 1 - k) (AV.str []) = .str [] :: List.replicate (s.count c + 1 - (k + 1)) (.str []) := fun k hk => by
      rw [show s.count c + 1 - k = (s.count c + 1 - (k + 1)) + 1 by omega, List.replicate_succ]
    have put : ∀ (x : List UInt8), i < s.count c + 1 → setRange (texts done ++ List.replicate (s.count c + 1 - i) (AV.str [])) i [.str x] = texts (done ++ [x]) ++ List.replicate (s.count c + 1 - (i + 1)) (.str []) := fun x hk => by
      rw [fin i hk]
      have := set_at (texts done) (AV.str x) (.str []) (List.replicate (s.count c + 1 - (i + 1)) (.str []))
      rw [hdl] at this
      show List.set _ i _ = _
      rw [this]; simp [texts]
    refine ab 1000 rfl trivial ?_
    refine S_dec rfl (fun hlt => ?_) (fun hlt => ?_)
    · have hlt : i < s.count c := by omega
      obtain ⟨m, m1, m2, m3, m4⟩ := split_at (c := c) (l := r) (by omega)
      refine ab 1000 rfl trivial ?_
      refine S_pure rfl rfl rfl (index_ok r c) (.cons (.refl .str) (.cons (.refl .str) (.nil _))) ?_
      rw [m1]
      refine ab 1000 rfl trivial ?_
      refine S_dec rfl (fun h => absurd h (by omega)) (fun _ => ?_)
      have hw4 : IntKind.i64.wrap ((m : Int) + 0) = (m : Int) := w64 (by omega) (by omega)
      have hw5 : IntKind.i64.wrap ((m : Int) + 1) = ((m + 1 : Nat) : Int) := w64 (by omega) (by omega)
      refine ab 1000 rfl ⟨by rw [hw4]; omega, by rw [hw4]; omega, trivial⟩ ?_
      refine S_index .top rfl rfl rfl ⟨rfl, by omega, by omega, trivial⟩ ?_
      refine S_store rfl rfl rfl ⟨rfl, rfl, rfl, ?_, trivial⟩ ?_
      · show offN 0 (mulN (i : Int).toNat 1) + 1 ≤ (texts done ++ List.replicate (s.count c + 1 - i) (AV.str [])).length
        rw [offN_eq, mulN_eq, Int.toNat_natCast, List.length_append, hdl, List.length_replicate]; omega
      refine ab 1000 rfl ⟨by show IntKind.i64.wrap ((m : Int) + 1) ≤ _; rw [hw5]; omega, by show 0 ≤ IntKind.i64.wrap ((m : Int) + 1); rw [hw5]; omega, trivial⟩ ?_
      refine S_round (i + 1, done ++ [r.take m], r.drop (m + 1)) (by show s.count c - (i + 1) < s.count c - i; omega) ⟨by simp [h1], by omega, by rw [List.length_drop]; omega, by rw [← h4, m3]; simp⟩
        (.cons ?_ (.cons rfl (.cons rfl (.cons rfl (.cons rfl (.cons (ai64 (by omega) (by omega)) (.nil _))))))) ?_
      · show AV.str (r.drop (IntKind.i64.wrap ((m : Int) + 1)).toNat) = _
        rw [hw5, Int.toNat_natCast]
      · show [(0, some (Box.cells (setRange (texts done ++ List.replicate (s.count c + 1 - i) (AV.str [])) (offN 0 (mulN (i : Int).toNat 1)) [.str (r.take (IntKind.i64.wrap ((m : Int) + 0)).toNat)]) ⟨false, none⟩))] = _
        rw [offN_eq, mulN_eq, Int.toNat_natCast, hw4, Int.toNat_natCast, Nat.zero_add, Nat.mul_one, put _ (by omega)]
    · have hlt : i = s.count c := by omega
      have h0 : r.count c = 0 := by omega
      rw [split_none h0] at h4
      refine ab 1000 rfl trivial ?_
      refine S_index .top rfl rfl rfl ⟨rfl, by omega, by omega, trivial⟩ ?_
      refine S_store rfl rfl rfl ⟨rfl, rfl, rfl, ?_, trivial⟩ ?_
      · show offN 0 (mulN (i : Int).toNat 1) + 1 ≤ (texts done ++ List.replicate (s.count c + 1 - i) (AV.str [])).length
        rw [offN_eq, mulN_eq, Int.toNat_natCast, List.length_append, hdl, List.length_replicate]; omega
      have hw6 : IntKind.i64.wrap ((i : Int) + 1) = ((i + 1 : Nat) : Int) := w64 (by omega) (by omega)
      refine ab 1000 rfl ⟨rfl, by rw [hw6]; omega, by rw [hw6]; omega, trivial⟩ ?_
      refine S_ret ⟨_, _, rfl, trivial, _, rfl, ?_⟩
      show Frz true [(0, some (Box.cells (setRange (texts done ++ List.replicate (s.count c + 1 - i) (AV.str [])) (offN 0 (mulN (i : Int).toNat 1)) [.str r]) ⟨false, none⟩))] (.ms 0 0 0 (IntKind.i64.wrap ((i : Int) + 1)).toNat 1 false) _
      rw [offN_eq, mulN_eq, Int.toNat_natCast, Nat.zero_add, Nat.mul_one, put _ (by omega), hw6, Int.toNat_natCast, ← h4]
      have hz : s.count c + 1 - (i + 1) = 0 := by omega
      rw [hz, List.replicate_zero, List.append_nil]
      exact .ms1 rfl (texts_one _) (by simp [texts, h1]) (texts_any _)
theorem Split_ok (s : List UInt8) (c : UInt8) (hs : s.length ≤ 1099511627776) : Calc cx 64 [.str s, .str [c]] (.sl true false 1 (texts (splitB c s))) :=
  pure_intro (fun a w => Tryd.call64 a w) Tryd.func64 rfl Tryd.ntmps64 rfl (.sl (fun _ => rfl) (texts_any _)) fun B => by
    refine ab 1000 rfl trivial ?_
    refine S_pure rfl rfl rfl (genSplit_ok s c hs) (.cons (.refl .str) (.cons (.refl .str) (.cons (.refl .int) (.cons (.refl .int) (.nil _))))) ?_
    refine ab 1000 rfl trivial ?_
    exact S_retc (.sl (fun _ => rfl) (texts_any _)) rfl trivial rfl
end Go.Proofs.YtnfalbdnkgaelaaDoor
end
section
set_option linter.unusedVariables false
set_option linter.unusedSimpArgs false
set_option maxRecDepth 20000
namespace Go.Proofs.YtnfalbdnkgaelaaDoor
open Go Go.Ab
def isPathB (s : List UInt8) : Bool := (splitB 47 s).all isName && decide (s.length ≤ 100)
theorem all_take {α : Type} {p : α → Bool} {l : List α} {i : Nat} (h : i < l.length) (ha : (l.take i).all p = true) (hp : p l[i] = true) : (l.take (i + 1)).all p = true := by
  rw [List.take_succ_eq_append_getElem h, List.all_append, ha]; simp [hp]
theorem all_not {α : Type} {p : α → Bool} {l : List α} {i : Nat} (h : i < l.length) (hp : p l[i] = false) : l.all p = false := by
  rw [List.all_eq_false]; exact ⟨_, List.getElem_mem h, by simp [hp]⟩
theorem isPath_ok (s : List UInt8) (hs : s.length ≤ 1099511627776) : Calc cx 47 [.str s] (.bool (isPathB s)) :=
  pure_intro (fun a w => Tryd.call47 a w) Tryd.func47 rfl Tryd.ntmps47 rfl .bool fun B => by
    obtain ⟨l, hl⟩ : ∃ l, l = splitB 47 s := ⟨_, rfl⟩
    have hlen : l.length ≤ s.length + 1 := by rw [hl, split_len]; have : s.count 47 ≤ s.length := List.count_le_length; omega
    have htl : (texts l).length = l.length := by simp [texts]
    have hSp := Split_ok s 47 hs
    rw [← hl] at hSp
    refine ab 1000 rfl trivial ?_
    refine S_pure rfl rfl rfl hSp (.cons (.refl .str) (.cons (.refl .str) (.nil _))) ?_
    refine ab 1000 rfl trivial ?_
    refine S_while (α := Nat) (fun i => [(0, .str s), (6, .sl true false 1 (texts l)), (7, .int .i64 ((texts l).length : Nat)), (8, .int .i64 (i : Nat))]) (fun _ => []) (fun i => i ≤ l.length ∧ (l.take i).all isName = true) (fun i => l.length - i) 0
      ⟨Nat.zero_le _, rfl⟩ (.cons rfl (.cons rfl (.cons rfl (.cons rfl (.nil _))))) rfl ?_
    rintro i ⟨hi, hN⟩
    refine ab 1000 rfl trivial ?_
    refine S_dec rfl (fun hil => ?_) (fun hil => ?_)
    · have hil : i < l.length := by have : (i : Int) < ((texts l).length : Nat) := hil; omega
      refine ab 1000 rfl trivial ?_
      refine S_index (.str l[i]) rfl rfl rfl ⟨rfl, by omega, by rw [Int.toNat_natCast]; simp [texts, List.getElem?_eq_getElem hil], trivial⟩ ?_
      refine ab 1000 rfl trivial ?_
      have hp : l[i].length ≤ s.length := split_part (c := 47) _ (by rw [← hl]; exact List.getElem_mem hil)
      refine S_pure rfl rfl rfl (isName_ok l[i] (by omega)) (.cons (.refl .str) (.nil _)) ?_
      refine ab 1000 rfl trivial ?_
      refine S_cond rfl (fun h => ?_) (fun h => ?_)
      · have h : isName l[i] = false := by simpa using (show (!isName l[i]) = true from h)
        refine ab 1000 rfl trivial ?_
        refine S_retc .bool rfl trivial ?_
        rw [isPathB, ← hl, all_not hil h]; rfl
      · have h : isName l[i] = true := by simpa using (show (!isName l[i]) = false from h)
        refine ab 1000 rfl trivial ?_
        exact S_round (i + 1) (by show l.length - (i + 1) < l.length - i; omega) ⟨hil, all_take hil hN h⟩ (.cons rfl (.cons rfl (.cons rfl (.cons (ai64 rfl (by omega)) (.nil _))))) rfl
    · have hil : i = l.length := by have : ¬ (i : Int) < ((texts l).length : Nat) := hil; omega
      rw [hil, List.take_length] at hN
      refine ab 1000 rfl trivial ?_
      refine S_retc .bool rfl trivial ?_
      rw [isPathB, ← hl, hN, Bool.true_and]
      show AV.bool (decide ((s.length : Int) ≤ 100)) = _
      exact congrArg AV.bool (decide_eq_decide.2 (by omega))
end Go.Proofs.YtnfalbdnkgaelaaDoor
end
section
set_option linter.unusedVariables false
set_option linter.unusedSimpArgs false
set_option maxRecDepth 20000
namespace Go.Proofs.YtnfalbdnkgaelaaDoor
open Go Go.Ab
structure Fil where
  path : List UInt8
  text : List UInt8
  run : Bool
  deriving DecidableEq
def filA (f : Fil) : AV := .agg [.str f.path, .str f.text, .bool f.run]
def fils (l : List Fil) : List AV := l.map filA
def insT (d p : List UInt8) : Bool := (d ++ [47]).isPrefixOf p
def filE (f : Fil) : Nat := if isPathB f.path = true then (if 100000 < f.text.length then 2 else 0) else 1
def formT : List Fil → Nat
  | [] => 0
  | f :: r => if filE f = 0 then formT r else filE f
def okT (l : List Fil) : Prop := l.Pairwise (fun f g => Op.bytesLess f.path g.path = true) ∧ ∀ f ∈ l, ∀ g ∈ l, insT f.path g.path = false
instance (l : List Fil) : Decidable (okT l) := inferInstanceAs (Decidable (_ ∧ _))
def chkT (l : List Fil) : Nat := if 60 < l.length then 2 else if formT l ≠ 0 then formT l else if okT l then 0 else 6
theorem fils_len (l : List Fil) : (fils l).length = l.length := by simp [fils]
theorem fils_get {l : List Fil} {i : Nat} (h : i < l.length) : (fils l)[i]? = some (filA l[i]) := by simp [fils, h]
theorem filA_free {st : Bool} (f : Fil) : Free st (filA f) := .agg (by intro x hx; simp at hx; rcases hx with rfl | rfl | rfl; exact .str; exact .str; exact .bool)
theorem fils_free {st : Bool} (l : List Fil) : ∀ x ∈ fils l, Free st x := by
  intro x hx
  obtain ⟨f, _, rfl⟩ := List.mem_map.1 hx
  exact filA_free f
theorem formT_at {l : List Fil} {i : Nat} (h : i < l.length) (h0 : formT (l.take i) = 0) (hn : filE l[i] ≠ 0) : formT l = filE l[i] := by
  induction l generalizing i with
  | nil => simp at h
  | cons f r ih =>
    cases i with
    | zero =>
      have hn : filE f ≠ 0 := hn
      show formT (f :: r) = filE f
      rw [formT, if_neg hn]
    | succ i =>
      rw [List.take_succ_cons, formT] at h0
      by_cases hf : filE f = 0
      · rw [if_pos hf] at h0
        rw [formT, if_pos hf]
        exact ih (by simpa using h) h0 hn
      · rw [if_neg hf] at h0; exact absurd h0 hf
theorem formT_step {l : List Fil} {i : Nat} (h : i < l.length) (h0 : formT (l.take i) = 0) (hn : filE l[i] = 0) : formT (l.take (i + 1)) = 0 := by
  induction l generalizing i with
  | nil => simp at h
  | cons f r ih =>
    cases i with
    | zero =>
      have hn : filE f = 0 := hn
      show formT [f] = 0
      rw [formT, if_pos hn]; rfl
    | succ i =>
      rw [List.take_succ_cons, formT] at h0 ⊢
      by_cases hf : filE f = 0
      · rw [if_pos hf] at h0 ⊢
        exact ih (by simpa using h) h0 hn
      · rw [if_neg hf] at h0; exact absurd h0 hf
end Go.Proofs.YtnfalbdnkgaelaaDoor
end
section
set_option linter.unusedVariables false
set_option linter.unusedSimpArgs false
set_option maxRecDepth 20000
namespace Go.Proofs.YtnfalbdnkgaelaaDoor
open Go Go.Ab
theorem prefix_take {s p : List UInt8} (h : p.length ≤ s.length) : (s.take p.length == p) = p.isPrefixOf s := by
  rw [Bool.eq_iff_iff, beq_iff_eq, List.isPrefixOf_iff_prefix, List.prefix_iff_eq_take]
  exact ⟨fun h => h.symm, fun h => h.symm⟩
theorem prefix_short {s p : List UInt8} (h : ¬ p.length ≤ s.length) : p.isPrefixOf s = false := by
  cases hp : p.isPrefixOf s with
  | false => rfl
  | true => exact absurd (List.isPrefixOf_iff_prefix.1 hp).length_le h
theorem HasPrefix2_ok (s p : List UInt8) : Calc cx 90 [.str s, .str p] (.bool (p.isPrefixOf s)) :=
  pure_intro (fun a w => Tryd.call90 a w) Tryd.func90 rfl Tryd.ntmps90 rfl .bool fun B => by
    by_cases h : p.length ≤ s.length
    · refine pB [.b true] rfl ?_
      refine S_retc .bool rfl trivial ?_
      exact congrArg AV.bool (prefix_take h)
    · refine pB [.b false] rfl ?_
      refine S_retc .bool rfl trivial ?_
      rw [prefix_short h]; rfl
theorem HasPrefix_ok (s p : List UInt8) : Calc cx 81 [.str s, .str p] (.bool (p.isPrefixOf s)) :=
  pure_intro (fun a w => Tryd.call81 a w) Tryd.func81 rfl Tryd.ntmps81 rfl .bool fun B => by
    refine pa [.v (.bool (p.isPrefixOf s))] rfl ?_ ?_
    · (repeat' with_reducible apply AllP_cons) <;> try exact aC
      exact ⟨_, HasPrefix2_ok s p, .cons (.refl .str) (.cons (.refl .str) (.nil _))⟩
    exact S_retc .bool rfl trivial rfl
end Go.Proofs.YtnfalbdnkgaelaaDoor
end
section
set_option linter.unusedVariables false
set_option linter.unusedSimpArgs false
set_option maxRecDepth 20000
set_option maxHeartbeats 4000000
namespace Go.Proofs.YtnfalbdnkgaelaaDoor
open Go Go.Ab
theorem inside_ok (d p : List UInt8) (hd : d.length ≤ 1000000000000) : Calc cx 63 [.str d, .str p] (.bool (insT d p)) :=
  pure_intro (fun a w => Tryd.call63 a w) Tryd.func63 rfl Tryd.ntmps63 rfl .bool fun B => by
    refine pa [.v (.bool (insT d p))] rfl ?_ ?_
    · (repeat' with_reducible apply AllP_cons) <;> try exact aC
      · exact ⟨_, HasPrefix_ok p (d ++ [47]), .cons (.refl .str) (.cons (.refl .str) (.nil _))⟩
    exact S_retc .bool rfl trivial rfl
end Go.Proofs.YtnfalbdnkgaelaaDoor
end
section
set_option linter.unusedVariables false
set_option linter.unusedSimpArgs false
set_option maxRecDepth 20000
set_option maxHeartbeats 4000000
namespace Go.Proofs.YtnfalbdnkgaelaaDoor
open Go Go.Ab
theorem bl_eq (x y : List UInt8) : Op.bytesLess x y = decide (x < y) := by
  induction x generalizing y with
  | nil => cases y <;> simp [Op.bytesLess]
  | cons a x ih =>
    cases y with
    | nil => simp [Op.bytesLess]
    | cons b y =>
      rw [Op.bytesLess, ih y, Bool.eq_iff_iff]
      simp only [List.cons_lt_cons_iff, Bool.or_eq_true, Bool.and_eq_true, decide_eq_true_eq, beq_iff_eq]
theorem bl_trans {a b c : List UInt8} (h1 : Op.bytesLess a b = true) (h2 : Op.bytesLess b c = true) : Op.bytesLess a c = true := by
  rw [bl_eq] at h1 h2 ⊢
  simp only [decide_eq_true_eq] at h1 h2 ⊢
  exact List.lt_trans h1 h2
theorem bl_irr (a : List UInt8) : Op.bytesLess a a = false := by
  rw [bl_eq]; simp
theorem leS_bl {a b : List UInt8} : leS a b = false → Op.bytesLess b a = true := by
  unfold leS
  rw [bl_eq, bl_eq]
  simp only [Bool.or_eq_false_iff, decide_eq_false_iff_not, beq_eq_false_iff_ne, decide_eq_true_eq]
  rintro ⟨h1, h2⟩
  by_cases h : b < a
  · exact h
  · exact absurd (List.le_antisymm (List.not_lt.1 h) (List.not_lt.1 h1)) h2
theorem leS_true {a b : List UInt8} : leS a b = true → Op.bytesLess b a = false := by
  intro h
  cases hb : Op.bytesLess b a with
  | false => rfl
  | true =>
    unfold leS at h
    cases h1 : Op.bytesLess a b with
    | true => have := bl_trans h1 hb; rw [bl_irr] at this; cases this
    | false =>
      rw [h1] at h
      have e : a = b := by simpa using h
      rw [e, bl_irr] at hb; cases hb
def okU (l : List Fil) (i : Nat) : Prop := ∀ k (hk : k < l.length), k < i → (∀ (h0 : 0 < k), Op.bytesLess (l[k - 1]'(by omega)).path l[k].path = true) ∧ ∀ g ∈ l, insT l[k].path g.path = false
theorem okU_all {l : List Fil} (h : okU l l.length) : okT l := by
  constructor
  · have key : ∀ (d i : Nat) (hi : i + d + 1 < l.length), Op.bytesLess (l[i]'(by omega)).path (l[i + d + 1]'hi).path = true := by
      intro d
      induction d with
      | zero => intro i hi; exact (h (i + 1) hi hi).1 (by omega)
      | succ d ih =>
        intro i hi
        exact bl_trans (ih i (by omega)) ((h (i + d + 1 + 1) hi hi).1 (by omega))
    rw [List.pairwise_iff_getElem]
    intro i j hi hj hij
    have := key (j - i - 1) i (by omega)
    simp only [show i + (j - i - 1) + 1 = j by omega] at this
    exact this
  · intro f hf g hg
    obtain ⟨k, hk, rfl⟩ := List.getElem_of_mem hf
    exact (h k hk hk).2 g hg
theorem okT_adj {l : List Fil} (h : okT l) {k : Nat} (hk : k < l.length) (h0 : 0 < k) : Op.bytesLess (l[k - 1]'(by omega)).path l[k].path = true := List.pairwise_iff_getElem.1 h.1 _ _ _ hk (by omega)
structure FilsOk (l : List Fil) : Prop where
  len : l.length ≤ 1000000000
  path : ∀ f ∈ l, f.path.length ≤ 1000000000000
  text : ∀ f ∈ l, f.text.length ≤ 1000000000000
def filBx (v : Nat) (f : Fil) : Nat × Option Box := (v, some (.cells [.str f.path, .str f.text, .bool f.run] ⟨false, some 73⟩))
theorem Check_ok {st fl : Bool} (l : List Fil) (hl : FilsOk l) : Calc cx 43 [.sl st fl 3 (fils l)] (.int .i64 (chkT l : Nat)) :=
  pure_intro (fun a w => Tryd.call43 a w) Tryd.func43 rfl Tryd.ntmps43 rfl .int fun B => by
    have hll := fils_len l
    have hlen := hl.len
    unfold chkT
    by_cases h60 : 60 < l.length
    · rw [if_pos h60]
      have e0 : decide ((((fils l).length : Nat) : Int) > 60) = true := decide_eq_true (by omega)
      refine pB [.b true] rfl ?_
      exact S_retc .int rfl trivial rfl
    rw [if_neg h60]
    have e0 : decide ((((fils l).length : Nat) : Int) > 60) = false := decide_eq_false (by omega)
    refine pB [.b false] rfl ?_
    refine S_dead ?_ ⟨_, _, .inl rfl⟩
    refine S_while (α := Nat) (fun i => [(0, .sl st fl 3 (fils l)), (12, .sl st fl 3 (fils l)), (13, .int .i64 (((fils l).length : Nat) : Int)), (14, .int .i64 (i : Nat))]) (fun i => [(i, none)]) (fun i => i ≤ l.length ∧ formT (l.take i) = 0) (fun i => l.length - i) 0
      ⟨Nat.zero_le _, rfl⟩ (.cons rfl (.cons rfl (.cons rfl (.cons rfl (.nil _))))) rfl ?_
    rintro i ⟨hi, hf0⟩
    have hi : i ≤ l.length := hi
    by_cases hlt : i < l.length
    · have e1 : decide ((i : Int) < (((fils l).length : Nat) : Int)) = true := decide_eq_true (by omega)
      have g1 : (fils l)[(i : Int).toNat]? = some (filA l[i]) := fils_get hlt
      have hm := List.getElem_mem hlt
      have hP := isPath_ok l[i].path (by have := hl.path _ hm; omega)
      cases hp : isPathB l[i].path with
      | false =>
        rw [hp] at hP
        have hfe : filE l[i] = 1 := by unfold filE; rw [hp]; rfl
        have hft := formT_at hlt hf0 (by rw [hfe]; decide)
        refine pa [.b true, .v (filA l[i]), .v (.bool false), .b true] rfl ?_ ?_
        · (repeat' with_reducible apply AllP_cons) <;> try exact aC
          · exact ⟨_, hP, .cons (.refl .str) (.nil _)⟩
        refine S_retc .int rfl trivial ?_
        rw [hft, hfe]; rfl
      | true =>
        rw [hp] at hP
        by_cases ht : 100000 < l[i].text.length
        · have hfe : filE l[i] = 2 := by unfold filE; rw [hp, if_pos rfl, if_pos ht]
          have hft := formT_at hlt hf0 (by rw [hfe]; decide)
          have e2 : decide ((((l[i].text).length : Nat) : Int) > 100000) = true := decide_eq_true (by omega)
          refine pa [.b true, .v (filA l[i]), .v (.bool true), .b false, .b true] rfl ?_ ?_
          · (repeat' with_reducible apply AllP_cons) <;> try exact aC
            · exact ⟨_, hP, .cons (.refl .str) (.nil _)⟩
          refine S_retc .int rfl trivial ?_
          rw [hft, hfe]; rfl
        · have hfe : filE l[i] = 0 := by unfold filE; rw [hp, if_pos rfl, if_neg ht]
          have e2 : decide ((((l[i].text).length : Nat) : Int) > 100000) = false := decide_eq_false (by omega)
          refine pa [.b true, .v (filA l[i]), .v (.bool true), .b false, .b false, .s] rfl ?_ ?_
          · (repeat' with_reducible apply AllP_cons) <;> try exact aC
            · exact ⟨_, hP, .cons (.refl .str) (.nil _)⟩
          refine S_drop (id := 0) rfl ?_ ⟨.skip, _, .inr ⟨_, _, _, rfl⟩⟩
          refine pB [] rfl ?_
          exact S_round (i + 1) (by show l.length - (i + 1) < l.length - i; omega) ⟨hlt, formT_step hlt hf0 hfe⟩ (.cons rfl (.cons rfl (.cons rfl (.cons (nX (by omega)) (.nil _))))) rfl
    · have e1 : decide ((i : Int) < (((fils l).length : Nat) : Int)) = false := decide_eq_false (by omega)
      have hfz : formT l = 0 := by rw [List.take_of_length_le (by omega)] at hf0; exact hf0
      rw [if_neg (by simp [hfz])]
      refine pB [.b false] rfl ?_
      refine S_dead ?_ ⟨_, _, .inl rfl⟩
      refine S_while (α := Nat × Nat × Nat) (fun q => [(0, .sl st fl 3 (fils l)), (27, .sl st fl 3 (fils l)), (28, .int .i64 (((fils l).length : Nat) : Int)), (29, .int .i64 (q.1 : Nat))]) (fun q => [(q.2.1, none), (q.2.2, none)]) (fun q => q.1 ≤ l.length ∧ okU l q.1) (fun q => l.length - q.1) (0, i, 0)
        ⟨Nat.zero_le _, fun k hk h => absurd h (Nat.not_lt_zero _)⟩ (.cons rfl (.cons rfl (.cons rfl (.cons rfl (.nil _))))) rfl ?_
      rintro ⟨i, u, v⟩ ⟨hi, hU⟩
      have hi : i ≤ l.length := hi
      have hU : okU l i := hU
      by_cases hlt : i < l.length
      · have e1 : decide ((i : Int) < (((fils l).length : Nat) : Int)) = true := decide_eq_true (by omega)
        have g1 : (fils l)[(i : Int).toNat]? = some (filA l[i]) := fils_get hlt
        have hm := List.getElem_mem hlt
        by_cases hbad : ∃ h0 : 0 < i, leS l[i].path (l[i - 1]'(by omega)).path = true
        · obtain ⟨h0, hb⟩ := hbad
          have hno : ¬ okT l := fun h => by have := okT_adj h hlt h0; rw [leS_true hb] at this; cases this
          have e2 : decide ((i : Int) > 0) = true := decide_eq_true (by omega)
          have hw : IntKind.i64.wrap ((i : Int) - 1) = ((i - 1 : Nat) : Int) := w64 (by omega) (by omega)
          have g2 : (fils l)[(((i - 1 : Nat) : Nat) : Int).toNat]? = some (filA (l[i - 1]'(by omega))) := fils_get (by omega)
          rw [if_neg hno]
          refine pa [.b true, .v (filA l[i]), .b true, .v (filA (l[i - 1]'(by omega))), .b true] rfl ?_ ?_
          · (repeat' with_reducible apply AllP_cons) <;> try exact aC
            · rw [hw]; exact g2
          exact S_retc .int rfl trivial rfl
        have hadj : ∀ h0 : 0 < i, Op.bytesLess (l[i - 1]'(by omega)).path l[i].path = true := fun h0 => leS_bl (by
          cases h : leS l[i].path (l[i - 1]'(by omega)).path with
          | false => rfl
          | true => exact absurd ⟨h0, h⟩ hbad)
        rcases Nat.eq_zero_or_pos i with h0 | h0
        case' inl =>
          have e2 : decide ((i : Int) > 0) = false := decide_eq_false (by omega)
          refine pB [.b true, .v (filA l[i]), .b false, .b false] rfl ?_
        case' inr =>
          have e2 : decide ((i : Int) > 0) = true := decide_eq_true (by omega)
          have hw : IntKind.i64.wrap ((i : Int) - 1) = ((i - 1 : Nat) : Int) := w64 (by omega) (by omega)
          have g2 : (fils l)[(((i - 1 : Nat) : Nat) : Int).toNat]? = some (filA (l[i - 1]'(by omega))) := fils_get (by omega)
          have hb : leS l[i].path (l[i - 1]'(by omega)).path = false := by
            cases h : leS l[i].path (l[i - 1]'(by omega)).path with
            | false => rfl
            | true => exact absurd ⟨h0, h⟩ hbad
          refine pa [.b true, .v (filA l[i]), .b true, .v (filA (l[i - 1]'(by omega))), .b false] rfl ?_ ?_
          · (repeat' with_reducible apply AllP_cons) <;> try exact aC
            · rw [hw]; exact g2
        all_goals
          refine S_while (α := Nat × Nat) (fun q => [(0, .sl st fl 3 (fils l)), (27, .sl st fl 3 (fils l)), (28, .int .i64 (((fils l).length : Nat) : Int)), (29, .int .i64 (i : Nat)), (6, .ptr 0 (u + 1) 0), (47, .sl st fl 3 (fils l)), (48, .int .i64 (((fils l).length : Nat) : Int)), (49, .int .i64 (q.1 : Nat))]) (fun q => [filBx (u + 1) l[i], (q.2, none)]) (fun q => q.1 ≤ l.length ∧ ∀ k (hk : k < l.length), k < q.1 → insT l[i].path l[k].path = false) (fun q => l.length - q.1) (0, v)
            ⟨Nat.zero_le _, fun k hk h => absurd h (Nat.not_lt_zero _)⟩ (.cons rfl (.cons rfl (.cons rfl (.cons rfl (.cons rfl (.cons rfl (.cons rfl (.cons rfl (.nil _))))))))) rfl ?_
          rintro ⟨j, y⟩ ⟨hj, hI⟩
          have hj : j ≤ l.length := hj
          by_cases hjt : j < l.length
          · have e3 : decide ((j : Int) < (((fils l).length : Nat) : Int)) = true := decide_eq_true (by omega)
            have g3 : (fils l)[(j : Int).toNat]? = some (filA l[j]) := fils_get hjt
            have hN := inside_ok l[i].path l[j].path (hl.path _ hm)
            cases hin : insT l[i].path l[j].path with
            | true =>
              rw [hin] at hN
              have hno : ¬ okT l := fun h => by have := h.2 _ hm _ (List.getElem_mem hjt); rw [hin] at this; cases this
              rw [if_neg hno]
              refine pa [.b true, .v (filA l[j]), .v (.bool true), .b true] rfl ?_ ?_
              · (repeat' with_reducible apply AllP_cons) <;> try exact aC
                · exact ⟨_, hN, .cons (.refl .str) (.cons (.refl .str) (.nil _))⟩
              exact S_retc .int rfl trivial rfl
            | false =>
              rw [hin] at hN
              refine pa [.b true, .v (filA l[j]), .v (.bool false), .b false, .s] rfl ?_ ?_
              · (repeat' with_reducible apply AllP_cons) <;> try exact aC
                · exact ⟨_, hN, .cons (.refl .str) (.cons (.refl .str) (.nil _))⟩
              refine S_drop (id := 1) rfl ?_ ⟨.skip, _, .inr ⟨_, _, _, rfl⟩⟩
              refine pB [] rfl ?_
              refine S_round (j + 1, y + 1) (by show l.length - (j + 1) < l.length - j; omega) ⟨hjt, fun k hk h => ?_⟩ (.cons rfl (.cons rfl (.cons rfl (.cons rfl (.cons rfl (.cons rfl (.cons rfl (.cons (nX (by omega)) (.nil _))))))))) rfl
              have h : k < j + 1 := h
              by_cases hkj : k < j
              · exact hI k hk hkj
              · have : k = j := by omega
                subst this; exact hin
          · have e3 : decide ((j : Int) < (((fils l).length : Nat) : Int)) = false := decide_eq_false (by omega)
            refine pB [.b false, .s] rfl ?_
            refine S_drop (id := 0) rfl ?_ ⟨.skip, _, .inr ⟨_, _, _, rfl⟩⟩
            refine pB [] rfl ?_
            refine S_round (i + 1, u + 1, y) (by show l.length - (i + 1) < l.length - i; omega) ⟨hlt, fun k hk h => ?_⟩ (.cons rfl (.cons rfl (.cons rfl (.cons (nX (by omega)) (.nil _))))) rfl
            have h : k < i + 1 := h
            by_cases hki : k < i
            · exact hU k hk hki
            · have : k = i := by omega
              subst this
              refine ⟨hadj, fun g hg => ?_⟩
              obtain ⟨q, hq, rfl⟩ := List.getElem_of_mem hg
              exact hI q hq (by show q < j; omega)
      · have e1 : decide ((i : Int) < (((fils l).length : Nat) : Int)) = false := decide_eq_false (by omega)
        have hok : okT l := okU_all (by rw [show l.length = i by omega]; exact hU)
        rw [if_pos hok]
        refine pB [.b false] rfl ?_
        exact S_retc .int rfl trivial rfl
end Go.Proofs.YtnfalbdnkgaelaaDoor
end
section
set_option linter.unusedVariables false
set_option linter.unusedSimpArgs false
namespace Go.Ab
open Go
section
variable {cx : Cx} {n : Nat} {B : Bs} {k : List AI} {Q : Post} {fr : Fr} {σ : Heap}
inductive Wv : AV → AV → Prop
  | refl {a} : Wv a a
  | nils {st fl sz} : Wv .nils (.sl st fl sz [])
  | sl {st fl st' fl' sz xs} (h1 : st' = true → st = true) (h2 : fl' = true → fl = true) : Wv (.sl st fl sz xs) (.sl st' fl' sz xs)
theorem Wv.rel {r : Rl} {w : World} {v : Value} {a a' : AV} (h : Wv a a') (hv : VRel r w v a) : VRel r w v a' := by
  cases h with
  | refl => exact hv
  | nils => cases hv; exact .sl0 (fun _ => rfl)
  | sl h1 h2 =>
    cases hv with
    | sl0 hf => exact .sl0 (fun h => hf (h2 h))
    | sl hn hc0 hf hI hS hsz f hc hv => exact .sl hn hc0 (fun h => hf (h2 h)) hI (fun h => hS (h1 h)) hsz f hc hv
theorem Wv.one {a a' : AV} (h : Wv a a') (ho : a.one = true) : a'.one = true := by
  cases h with
  | refl => exact ho
  | nils => rfl
  | sl _ _ => rfl
inductive Wvs : List AV → List AV → Prop
  | nil : Wvs [] []
  | cons {a b az bs} (h : Wv a b) (hs : Wvs az bs) : Wvs (a :: az) (b :: bs)
theorem Wvs.len {az bs : List AV} (h : Wvs az bs) : az.length = bs.length := by
  induction h with
  | nil => rfl
  | cons _ _ ih => simp [ih]
theorem Wvs.get {az bs : List AV} (h : Wvs az bs) : ∀ (i : Nat) (h1 : i < az.length) (h2 : i < bs.length), Wv az[i] bs[i] := by
  induction h with
  | nil => intro i h1; simp at h1
  | cons h hs ih =>
    intro i h1 h2
    cases i with
    | zero => exact h
    | succ i => exact ih i (by simpa using h1) (by simpa using h2)
theorem S_wkF {todo : List AI} {az : List AV} (t : Nat) (bs : List AV) (h : fr.get t = .agg az) (hw : Wvs az bs) (hT : ∃ c k, todo = .code c :: k ∨ ∃ all l K, todo = .ops all l K :: k)
    (hk : S cx n B todo Q ((t, .agg bs) :: fr) σ) : S cx n B todo Q fr σ := by
  have key : ∀ r w a, FRel r w n fr a → FRel r w n ((t, .agg bs) :: fr) a := by
    intro r w a hf
    refine ⟨hf.size, fun s => ?_, fun vs hm => ?_⟩
    · rw [Fr.get_cons]
      split
      · rename_i hs
        subst hs
        have hv := hf.get t
        rw [h] at hv
        generalize a.tmps.getD t undef = z at hv
        cases hv with
        | agg hn hc => exact .agg (by rw [hn, hw.len]) (fun i hi => (hw.get i (by rw [hw.len]; exact hi) hi).rel (hc i (by rw [hw.len]; exact hi)))
      · exact hf.get s
    · rw [Fr.get_cons] at hm
      split at hm
      · cases hm
      · exact hf.defs vs hm
  obtain ⟨c, k, hT⟩ := hT
  rcases hT with rfl | ⟨all, l, K, rfl⟩
  · exact fun r a w hi hf hd hx => hk r a w hi (key r w a hf) hd hx
  · exact fun r a w hi hf hd hx => hk r a w hi (key r w a hf) hd hx
end
end Go.Ab
end
section
set_option linter.unusedVariables false
set_option linter.unusedSimpArgs false
set_option maxRecDepth 20000
set_option maxHeartbeats 1000000
namespace Go.Proofs.YtnfalbdnkgaelaaDoor
open Go Go.Ab
theorem CheckE_ok (st st' fl st2 fl2 : Bool) (l : List Tg) (fs : List Fil) (hl : l.length ≤ 1000000000) (hz : TgSz l) (hf : FilsOk fs) (h0 : chkT fs = 0) (h : nmE l ≠ 0) :
    Calc cx 29 [.sl st' fl 5 (tgs st l), .sl st2 fl2 3 (fils fs)] (.tup [.str [], .int .i64 (nmE l : Nat)]) :=
  pure_intro (fun a w => Tryd.call29 a w) Tryd.func29 rfl Tryd.ntmps29 rfl (.tup (fun a ha => by rcases List.mem_cons.1 ha with rfl | ha; exact .str; rw [List.mem_singleton.1 ha]; exact .int)) fun B => by
    have hn := named_ok st st' fl l hl hz
    have hR : nmR l = .tup [.nilm, .int .i64 (nmE l : Nat)] := by unfold nmR; rw [if_neg h]
    have hH : nmH st l = [] := by unfold nmH; rw [if_neg h]
    rw [hR, hH] at hn
    have hne := i64_ne h
    have hC := Check_ok (st := st2) (fl := fl2) fs hf
    rw [h0] at hC
    refine pa [.v (.int .i64 0), .b false, .f (.tup [.nilm, .int .i64 (nmE l : Nat)]) (fun _ => []), .b true] rfl ?_ ?_
    · (repeat' with_reducible apply AllP_cons) <;> try exact aC
      · exact ⟨_, hC, .cons (.refl (.sl (fun h => by cases h) (fils_free fs))) (.nil _)⟩
    exact S_ret ⟨_, _, rfl, trivial, _, rfl, .refl (.tup (fun a ha => by rcases List.mem_cons.1 ha with rfl | ha; exact .str; rw [List.mem_singleton.1 ha]; exact .int))⟩
def nA : Nm := [97]
def nB : Nm := [98]
def tgX : Tg := ⟨nA, [], [nB], [], []⟩
def tgY : Tg := ⟨nB, [], [], [], []⟩
def l2 : List Tg := [tgX, tgY]
theorem sort1 (x : Nm) : sortT [x] = [x] := List.perm_singleton.1 (sortT_perm [x])
theorem next1 {nd : Nm → List Nm} {sm out : List Nm} {x : Nm} (h : rdyG nd sm out = [x]) : nextG nd sm out = some x := by unfold nextG; rw [h, sort1]; rfl
theorem ord2 : ordG (ndT l2) [nA, nB] 2 [] = [nB, nA] := by
  rw [ordG_step (b := nB) (next1 (by decide)), ordG_step (b := nA) (next1 (by decide))]; rfl
theorem ordL2 : ordL l2 = [nB, nA] := ord2
theorem nm2 : nmE l2 = 0 := by decide
theorem oE2 : oE l2 = 0 := by
  unfold oE
  rw [if_pos nm2, ordL2]; rfl
theorem usr2 : usrL l2 nB = [nA] := by
  unfold usrL
  rw [show (nmsG l2).filter (usQ l2 nB) = [nA] by decide]
  exact sort1 nA
theorem ak2b : akE l2 nB = 0 := by decide
theorem ak2a : akE l2 nA = 0 := by decide
theorem cn2 : cnG l2 nA = [nA, nB] := by decide
theorem ordC2 : ordC l2 nA = [nB, nA] := by
  unfold ordC
  rw [cn2]; exact ord2
theorem cE2 : cE l2 nA = 0 := by
  unfold cE
  rw [if_pos ak2a, ordC2, cn2]; rfl
theorem dp2 : dpG l2 nA = 1 := by
  unfold dpG
  rw [if_pos cE2, ordC2]; decide
theorem sz2 : TgSz l2 := ⟨fun t ht => by
  rcases List.mem_cons.1 ht with rfl | ht
  · decide
  · rw [List.mem_singleton.1 ht]; decide, fun t ht => by
  rcases List.mem_cons.1 ht with rfl | ht
  · decide
  · rw [List.mem_singleton.1 ht]; decide⟩
theorem sz1 : TgSz [tgX] := ⟨fun t ht => by rw [List.mem_singleton.1 ht]; decide, fun t ht => by rw [List.mem_singleton.1 ht]; decide⟩
theorem nm1 : nmE [tgX] = 5 := by decide
theorem graphBegun_ok : Calc cx 17 [] (.bool true) :=
  pure_intro (fun a w => Tryd.call17 a w) Tryd.func17 rfl Tryd.ntmps17 rfl .bool fun B => by
    refine pan 9 [] rfl ?_ ?_
    · (repeat' with_reducible apply AllP_cons) <;> try exact aC
    refine S_wkF 11 [.str nA, lsA true [], lsA true [nB], lsA true [], lsA true []] rfl (.cons .refl (.cons .nils (.cons (.sl (fun _ => rfl) (fun h => by cases h)) (.cons .nils (.cons .nils .nil))))) ⟨.skip, _, .inr ⟨_, _, _, rfl⟩⟩ ?_
    refine S_wkF 12 [.str nB, lsA true [], lsA true [], lsA true [], lsA true []] rfl (.cons .refl (.cons .nils (.cons .nils (.cons .nils (.cons .nils .nil))))) ⟨.skip, _, .inr ⟨_, _, _, rfl⟩⟩ ?_
    have hl : l2.length ≤ 1000000000 := by decide
    have hO := Order_ok true true true l2 hl sz2
    have hU := Users_ok true true true l2 nB hl sz2
    have hD := Depth_ok true true true l2 nA hl sz2
    have hf : FilsOk [] := ⟨by decide, (fun f hf => by cases hf), fun f hf => by cases hf⟩
    have hC := CheckE_ok true true false true true [tgX] [] (by decide) sz1 hf (by decide) (by decide)
    rw [nm1] at hC
    rw [oE2, ordL2] at hO
    rw [ak2b, usr2] at hU
    rw [cE2, dp2] at hD
    have hS1 := SameTexts_ok (st := true) (fl := false) (st' := true) (fl' := true) [nB, nA] [nB, nA] (by decide) (by decide)
    have hS2 := SameTexts_ok (st := true) (fl := false) (st' := true) (fl' := true) [nA] [nA] (by decide) (by decide)
    refine pa [.v (outAV [nB, nA] 0), .v (outAV [nA] 0), .v (.tup [.int .i64 1, .int .i64 0]), .v (.tup [.str [], .int .i64 5]), .b true, .v (.bool true), .b true, .b true, .v (.bool true), .b true, .b true, .b true] rfl ?_ ?_
    · (repeat' with_reducible apply AllP_cons) <;> try exact aC
      · exact ⟨_, hO, .cons (.refl (.sl (fun h => by cases h) (tgs_any (fun h => by cases h) l2))) (.nil _)⟩
      · exact ⟨_, hU, .cons (.refl (.sl (fun h => by cases h) (tgs_any (fun h => by cases h) l2))) (.cons (.refl .str) (.nil _))⟩
      · exact ⟨_, hD, .cons (.refl (.sl (fun h => by cases h) (tgs_any (fun h => by cases h) l2))) (.cons (.refl .str) (.nil _))⟩
      · exact ⟨_, hC, .cons (.refl (.sl (fun h => by cases h) (tgs_any (fun h => by cases h) [tgX]))) (.cons .nils (.nil _))⟩
      · exact ⟨_, hS1, .cons (.refl (.sl (fun h => by cases h) (texts_any _))) (.cons (.refl (.sl (fun h => by cases h) (texts_any [nB, nA]))) (.nil _))⟩
      · exact ⟨_, hS2, .cons (.refl (.sl (fun h => by cases h) (texts_any _))) (.cons (.refl (.sl (fun h => by cases h) (texts_any [nA]))) (.nil _))⟩
    exact S_retc .bool rfl trivial rfl
end Go.Proofs.YtnfalbdnkgaelaaDoor
end
section
set_option linter.unusedVariables false
set_option linter.unusedSimpArgs false
set_option maxRecDepth 20000
set_option maxHeartbeats 1000000
namespace Go.Proofs.YtnfalbdnkgaelaaDoor
open Go Go.Ab
def tAt (l : List Tg) (name : Nm) : Int := if name ∈ nmsG l then ((atG l name : Nat) : Int) else -1
theorem idx_first : ∀ {l : List Nm} {x : Nm} {i : Nat} (h : i < l.length), l[i] = x → (∀ j (hj : j < i), l[j]'(by omega) ≠ x) → l.idxOf x = i
  | a :: l, x, 0, h, he, hn => by
    have he : a = x := he
    rw [he, List.idxOf_cons_self]
  | a :: l, x, i + 1, h, he, hn => by
    have h0 : a ≠ x := hn 0 (by omega)
    rw [List.idxOf_cons, show (a == x) = false by simpa using h0]
    show l.idxOf x + 1 = i + 1
    rw [idx_first (l := l) (i := i) (by simpa using h) he (fun j hj => hn (j + 1) (by omega))]
theorem idx_le : ∀ {l : List Nm} {x : Nm} {j : Nat} (h : j < l.length), l[j] = x → l.idxOf x ≤ j
  | a :: l, x, 0, h, he => by
    have he : a = x := he
    rw [he, List.idxOf_cons_self]; exact Nat.le_refl _
  | a :: l, x, j + 1, h, he => by
    rw [List.idxOf_cons]
    cases hb : a == x with
    | true => exact Nat.zero_le _
    | false => exact Nat.succ_le_succ (idx_le (l := l) (by simpa using h) he)
theorem tAt_at {l : List Tg} {name : Nm} {i : Nat} (hi : i < l.length) (he : l[i].name = name) (hn : ∀ j (hj : j < i), (l[j]'(by omega)).name ≠ name) : tAt l name = (i : Nat) := by
  have hm : name ∈ nmsG l := by rw [← he]; exact List.mem_map_of_mem (List.getElem_mem hi)
  unfold tAt
  rw [if_pos hm]
  congr 1
  exact idx_first (by rw [nms_len]; exact hi) (by rw [nms_get hi]; exact he) (fun j hj => by rw [nms_get (by omega)]; exact hn j hj)
theorem tAt_no {l : List Tg} {name : Nm} (hn : ∀ j (hj : j < l.length), l[j].name ≠ name) : tAt l name = -1 := by
  unfold tAt
  rw [if_neg]
  intro hm
  obtain ⟨t, ht, e⟩ := List.mem_map.1 hm
  obtain ⟨j, hj, rfl⟩ := List.getElem_of_mem ht
  exact hn j hj e
theorem tgs_arg {σ : Heap} (st st' fl : Bool) (l : List Tg) : Frz false σ (.sl st' fl 5 (tgs st l)) (.sl st' fl 5 (tgs st l)) := .refl (.sl (fun h => by cases h) (tgs_any (fun h => by cases h) l))
theorem TargetAt_ok (st st' fl : Bool) (l : List Tg) (name : Nm) (hl : l.length ≤ 1000000000) : Calc cx 31 [.sl st' fl 5 (tgs st l), .str name] (.int .i64 (tAt l name)) :=
  pure_intro (fun a w => Tryd.call31 a w) Tryd.func31 rfl Tryd.ntmps31 rfl .int fun B => by
    have hll := tgs_len st l
    refine pB [] rfl ?_
    refine S_while (α := Nat) (fun i => [(0, .sl st' fl 5 (tgs st l)), (1, .str name), (5, .int .i64 (i : Nat))]) (fun _ => []) (fun i => i ≤ l.length ∧ ∀ j (hj : j < l.length), j < i → l[j].name ≠ name) (fun i => l.length - i) 0
      ⟨Nat.zero_le _, fun j hj h => absurd h (Nat.not_lt_zero _)⟩ (.cons rfl (.cons rfl (.cons rfl (.nil _)))) rfl ?_
    rintro i ⟨hi, hn⟩
    have hi : i ≤ l.length := hi
    by_cases hlt : i < l.length
    · have e1 : decide ((i : Int) < (((tgs st l).length : Nat) : Int)) = true := decide_eq_true (by omega)
      have g1 : (tgs st l)[(i : Int).toNat]? = some (tgA st l[i]) := by rw [Int.toNat_natCast]; exact tgs_get hlt
      cases h : l[i].name == name with
      | true =>
        rw [tAt_at hlt (by simpa using h) (fun j hj => hn j (by omega) hj)]
        refine pB [.b true, .v (tgA st l[i]), .b true] rfl ?_
        exact S_retc .int rfl trivial rfl
      | false =>
        refine pB [.b true, .v (tgA st l[i]), .b false] rfl ?_
        exact S_round (i + 1) (by show l.length - (i + 1) < l.length - i; omega) ⟨hlt, fun j hj h' => by
          by_cases hji : j < i
          · exact hn j hj hji
          · have : j = i := by omega
            subst this; simpa using h⟩ (.cons rfl (.cons rfl (.cons (ai64 (by omega) (by omega)) (.nil _)))) rfl
    · have hil : i = l.length := by omega
      subst hil
      have e1 : decide ((l.length : Int) < (((tgs st l).length : Nat) : Int)) = false := decide_eq_false (by omega)
      rw [tAt_no (fun j hj => hn j hj hj)]
      refine pB [.b false] rfl ?_
      exact S_retc .int rfl trivial rfl
theorem tAt_lt {l : List Tg} {i : Nat} (hi : i < l.length) : decide (tAt l l[i].name < (i : Int)) = decide (l[i].name ∈ nmsG (l.take i)) := by
  have hm : l[i].name ∈ nmsG l := List.mem_map_of_mem (List.getElem_mem hi)
  unfold tAt
  rw [if_pos hm, Bool.eq_iff_iff, decide_eq_true_eq, decide_eq_true_eq, nms_take]
  have hlt := atG_lt hm
  constructor
  · intro h
    have h : atG l l[i].name < i := by omega
    have : (nmsG l)[atG l l[i].name]'(by rw [nms_len]; exact hlt) = l[i].name := List.getElem_idxOf _
    rw [← this]
    exact List.mem_take_iff_getElem.2 ⟨_, by rw [nms_len]; omega, rfl⟩
  · intro h
    obtain ⟨j, hj, e⟩ := List.mem_take_iff_getElem.1 h
    rw [nms_len] at hj
    have : atG l l[i].name ≤ j := idx_le (by rw [nms_len]; omega) e
    omega
theorem tAt_neg (l : List Tg) (name : Nm) : decide (tAt l name < 0) = decide (name ∉ nmsG l) := by
  unfold tAt
  by_cases h : name ∈ nmsG l
  · rw [if_pos h, Bool.eq_iff_iff]; simp [h]
  · rw [if_neg h, Bool.eq_iff_iff]; simp [h]
theorem CheckNames_ok (st st' fl : Bool) (l : List Tg) (hl : l.length ≤ 1000000000) (hz : TgSz l) : Calc cx 13 [.sl st' fl 5 (tgs st l)] (.int .i64 (nmE l : Nat)) :=
  pure_intro (fun a w => Tryd.call13 a w) Tryd.func13 rfl Tryd.ntmps13 rfl .int fun B => by
    have hll := tgs_len st l
    have hT := fun name => TargetAt_ok st st' fl l name hl
    by_cases h60 : 60 < l.length
    · have he : nmE l = 2 := by unfold nmE; rw [if_pos h60]
      have c1 : decide ((((tgs st l).length : Nat) : Int) > 60) = true := decide_eq_true (by omega)
      refine pB [.b true] rfl ?_
      refine S_retc .int rfl trivial ?_
      rw [he]; rfl
    have c1 : decide ((((tgs st l).length : Nat) : Int) > 60) = false := decide_eq_false (by omega)
    refine pB [.b false] rfl ?_
    have hil : ∀ (i : Nat), i < l.length → decide ((i : Int) < (((tgs st l).length : Nat) : Int)) = true := fun i h => decide_eq_true (by omega)
    have hex : ∀ (i : Nat), i = l.length → decide ((i : Int) < (((tgs st l).length : Nat) : Int)) = false := fun i h => decide_eq_false (by omega)
    have hget : ∀ (i : Nat) (h : i < l.length), (tgs st l)[(i : Int).toNat]? = some (tgA st l[i]) := fun i h => by rw [Int.toNat_natCast]; exact tgs_get h
    refine S_while (α := Nat) (fun i => [(0, .sl st' fl 5 (tgs st l)), (3, .int .i64 (i : Nat))]) (fun i => []) (fun i => i ≤ l.length ∧ ∀ t ∈ l.take i, isName t.name = true) (fun i => l.length - i) 0 ⟨Nat.zero_le _, fun t h => by cases h⟩ (.cons rfl (.cons rfl (.nil _))) rfl ?_
    rintro i ⟨hi, hnm⟩
    by_cases hlt : i < l.length
    · have c2 := hil i hlt
      have c3 := hget i hlt
      have hni := IsName_ok l[i].name (by have := hz.nm _ (List.getElem_mem hlt); omega)
      cases hb : isName l[i].name with
      | false =>
        rw [hb] at hni
        refine pa [.b true, .v (tgA st l[i]), .v (.bool false), .b true] rfl ?_ ?_
        · (repeat' with_reducible apply AllP_cons) <;> try exact aC
          · exact ⟨_, hni, .cons (.refl .str) (.nil _)⟩
        refine S_retc .int rfl trivial ?_
        have : nmE l = 1 := by
          unfold nmE
          rw [if_neg h60, if_pos]
          exact Bool.eq_false_iff.2 fun h => by
            have := List.all_eq_true.1 h _ (List.getElem_mem hlt)
            rw [hb] at this; cases this
        rw [this]; rfl
      | true =>
        rw [hb] at hni
        refine pa [.b true, .v (tgA st l[i]), .v (.bool true), .b false] rfl ?_ ?_
        · (repeat' with_reducible apply AllP_cons) <;> try exact aC
          · exact ⟨_, hni, .cons (.refl .str) (.nil _)⟩
        refine S_round (i + 1) (by show l.length - (i + 1) < l.length - i; omega) ⟨hlt, fun t ht => ?_⟩ (.cons rfl (.cons (ai64 (by omega) (by omega)) (.nil _))) rfl
        rw [List.take_succ_eq_append_getElem hlt] at ht
        rcases List.mem_append.1 ht with ht | ht
        · exact hnm t ht
        · rw [List.mem_singleton.1 ht]; exact hb
    obtain rfl : i = l.length := by omega
    have hall : ∀ t ∈ l, isName t.name = true := by rw [List.take_length] at hnm; exact hnm
    have h1 : ¬ (l.all (fun t => isName t.name) = false) := by rw [List.all_eq_true.2 hall]; simp
    clear hnm hi hlt
    have hex0 := hex _ rfl
    refine pB [.b false] rfl ?_
    refine S_while (α := Nat) (fun i => [(0, .sl st' fl 5 (tgs st l)), (4, .int .i64 (i : Nat))]) (fun i => []) (fun i => i ≤ l.length ∧ (nmsG (l.take i)).Nodup) (fun i => l.length - i) 0 ⟨Nat.zero_le _, List.nodup_nil⟩ (.cons rfl (.cons rfl (.nil _))) rfl ?_
    rintro i ⟨hi, hnd⟩
    by_cases hlt : i < l.length
    · have c2 := hil i hlt
      have c3 := hget i hlt
      have htl := tAt_lt hlt
      cases hb : decide (l[i].name ∈ nmsG (l.take i)) with
      | true =>
        have hm := of_decide_eq_true hb
        rw [hb] at htl
        refine pa [.b true, .v (tgA st l[i]), .v (.int .i64 (tAt l l[i].name)), .b true] rfl ?_ ?_
        · (repeat' with_reducible apply AllP_cons) <;> try exact aC
          · exact ⟨_, hT _, .cons (tgs_arg ..) (.cons (.refl .str) (.nil _))⟩
        refine S_retc .int rfl trivial ?_
        have : nmE l = 6 := by
          unfold nmE
          rw [if_neg h60, if_neg h1, if_pos (decide_eq_false (nms_dup hlt hm))]
        rw [this]; rfl
      | false =>
        have hm := of_decide_eq_false hb
        rw [hb] at htl
        refine pa [.b true, .v (tgA st l[i]), .v (.int .i64 (tAt l l[i].name)), .b false] rfl ?_ ?_
        · (repeat' with_reducible apply AllP_cons) <;> try exact aC
          · exact ⟨_, hT _, .cons (tgs_arg ..) (.cons (.refl .str) (.nil _))⟩
        refine S_round (i + 1) (by show l.length - (i + 1) < l.length - i; omega) ⟨hlt, ?_⟩ (.cons rfl (.cons (ai64 (by omega) (by omega)) (.nil _))) rfl
        rw [nms_snoc hlt]
        exact List.nodup_append.2 ⟨hnd, by simp, fun a ha c hc e => by rw [List.mem_singleton.1 hc] at e; exact hm (e ▸ ha)⟩
    obtain rfl : i = l.length := by omega
    rw [List.take_length] at hnd
    clear hi hlt
    refine pB [.b false] rfl ?_
    refine S_while (α := Nat) (fun i => [(0, .sl st' fl 5 (tgs st l)), (5, .int .i64 (i : Nat))]) (fun i => []) (fun i => i ≤ l.length ∧ ∀ t ∈ l.take i, ∀ k ∈ t.needs, k ∈ nmsG l) (fun i => l.length - i) 0 ⟨Nat.zero_le _, fun t h => by cases h⟩ (.cons rfl (.cons rfl (.nil _))) rfl ?_
    rintro i ⟨hi, hcl⟩
    by_cases hlt : i < l.length
    · have c2 := hil i hlt
      have c3 := hget i hlt
      have hnl := hz.nd _ (List.getElem_mem hlt)
      have hmem : l[i] ∈ l := List.getElem_mem hlt
      have htk : l.take (i + 1) = l.take i ++ [l[i]] := List.take_succ_eq_append_getElem hlt
      generalize l[i] = t at *
      have htl := texts_len t.needs
      refine pB [.b true] rfl ?_
      refine S_while (α := Nat) (fun j => [(0, .sl st' fl 5 (tgs st l)), (5, .int .i64 (i : Nat)), (6, .int .i64 (j : Nat))]) (fun _ => []) (fun j => j ≤ t.needs.length ∧ ∀ k ∈ t.needs.take j, k ∈ nmsG l) (fun j => t.needs.length - j) 0 ⟨Nat.zero_le _, fun k h => by cases h⟩ (.cons rfl (.cons rfl (.cons rfl (.nil _)))) rfl ?_
      rintro j ⟨hj, hjk⟩
      by_cases hjl : j < t.needs.length
      · have d2 : decide ((j : Int) < (((texts t.needs).length : Nat) : Int)) = true := decide_eq_true (by omega)
        have d3 : (texts t.needs)[(j : Int).toNat]? = some (.str t.needs[j]) := by rw [Int.toNat_natCast]; exact texts_get hjl
        have htn := tAt_neg l t.needs[j]
        cases hb2 : decide (t.needs[j] ∉ nmsG l) with
        | false =>
          have hm : t.needs[j] ∈ nmsG l := Classical.not_not.1 (of_decide_eq_false hb2)
          rw [hb2] at htn
          refine pa [.v (tgA st t), .b true, .v (tgA st t), .v (.str t.needs[j]), .v (.int .i64 (tAt l t.needs[j])), .b false] rfl ?_ ?_
          · (repeat' with_reducible apply AllP_cons) <;> try exact aC
            · exact ⟨_, hT _, .cons (tgs_arg ..) (.cons (.refl .str) (.nil _))⟩
          refine S_round (j + 1) (by show t.needs.length - (j + 1) < t.needs.length - j; omega) ⟨hjl, fun k hk => ?_⟩ (.cons rfl (.cons rfl (.cons (ai64 (by omega) (by omega)) (.nil _)))) rfl
          rw [List.take_succ_eq_append_getElem hjl] at hk
          rcases List.mem_append.1 hk with hk | hk
          · exact hjk k hk
          · rw [List.mem_singleton.1 hk]; exact hm
        | true =>
          have hm := of_decide_eq_true hb2
          rw [hb2] at htn
          refine pa [.v (tgA st t), .b true, .v (tgA st t), .v (.str t.needs[j]), .v (.int .i64 (tAt l t.needs[j])), .b true] rfl ?_ ?_
          · (repeat' with_reducible apply AllP_cons) <;> try exact aC
            · exact ⟨_, hT _, .cons (tgs_arg ..) (.cons (.refl .str) (.nil _))⟩
          refine S_retc .int rfl trivial ?_
          have : nmE l = 5 := by
            unfold nmE
            rw [if_neg h60, if_neg h1, if_neg (by simpa using hnd), if_pos]
            refine Bool.eq_false_iff.2 fun h => ?_
            have h1 := List.all_eq_true.1 h _ hmem
            have h2 := List.all_eq_true.1 h1 _ (List.getElem_mem hjl)
            exact hm (of_decide_eq_true h2)
          rw [this]; rfl
      · have hje : j = t.needs.length := by omega
        have d2 : decide ((j : Int) < (((texts t.needs).length : Nat) : Int)) = false := decide_eq_false (by omega)
        refine pB [.v (tgA st t), .b false] rfl ?_
        refine S_round (i + 1) (by show l.length - (i + 1) < l.length - i; omega) ⟨hlt, fun x hx k hk => ?_⟩ (.cons rfl (.cons (ai64 (by omega) (by omega)) (.nil _))) rfl
        rw [htk] at hx
        rcases List.mem_append.1 hx with hx | hx
        · exact hcl x hx k hk
        · rw [List.mem_singleton.1 hx] at hk
          rw [hje, List.take_length] at hjk
          exact hjk k hk
    obtain rfl : i = l.length := by omega
    rw [List.take_length] at hcl
    refine pB [.b false] rfl ?_
    refine S_retc .int rfl trivial ?_
    have : nmE l = 0 := nmE_ok.2 ⟨by omega, hall, hnd, hcl⟩
    rw [this]; rfl
end Go.Proofs.YtnfalbdnkgaelaaDoor
end
section
set_option linter.unusedVariables false
set_option linter.unusedSimpArgs false
set_option maxRecDepth 20000
set_option maxHeartbeats 1000000
namespace Go.Proofs.YtnfalbdnkgaelaaDoor
open Go Go.Ab
def booA (n : Nat) (P : Nat → Bool) : List AV := (List.range n).map fun j => .bool (P j)
def rwE (n : Nat) (P : Nat → Bool) : Nat × Option Box := (0, some (.cells (booA n P) ⟨false, none⟩))
def refA (n k : Nat) : List AV := (List.range k).map fun a => .ms (1 + a) 0 0 n 1 false
def reH (n k m : Nat) (R : Nat → Nat → Bool) : Heap := (k, some (.cells (refA n k) ⟨false, none⟩)) :: (List.range m).map fun a => rwE n (R a)
def rowsA (n m : Nat) (R : Nat → Nat → Bool) : List AV := (List.range m).map fun a => .sl true false 1 (booA n (R a))
theorem boo_len (n : Nat) (P : Nat → Bool) : (booA n P).length = n := by simp [booA]
theorem boo_get {n : Nat} {P : Nat → Bool} {j : Nat} (h : j < n) : (booA n P)[j]? = some (.bool (P j)) := by simp [booA, h]
theorem boo_one (n : Nat) (P : Nat → Bool) : ∀ x ∈ booA n P, x.one = true := fun x hx => by obtain ⟨j, _, rfl⟩ := List.mem_map.1 hx; rfl
theorem boo_free {st : Bool} (n : Nat) (P : Nat → Bool) : ∀ x ∈ booA n P, Free st x := fun x hx => by obtain ⟨j, _, rfl⟩ := List.mem_map.1 hx; exact .bool
theorem boo_set {n : Nat} {P : Nat → Bool} {j : Nat} (b : Bool) (h : j < n) : setRange (booA n P) j [.bool b] = booA n (fun x => if x = j then b else P x) := by
  apply List.ext_getElem?
  intro k
  rw [setRange_get _ _ _ (by rw [boo_len]; exact h)]
  unfold booA
  simp only [List.getElem?_map, List.length_cons, List.length_nil]
  by_cases hk : k = j
  · subst hk
    rw [if_pos (by omega)]
    simp [h]
  · rw [if_neg (by omega)]
    by_cases hk2 : k < n
    · simp [List.getElem?_range hk2, hk]
    · simp [hk2]
theorem boo_congr {n : Nat} {P Q : Nat → Bool} (h : ∀ j, j < n → P j = Q j) : booA n P = booA n Q := List.map_congr_left fun j hj => by rw [h j (List.mem_range.1 hj)]
theorem ref_len (n k : Nat) : (refA n k).length = k := by simp [refA]
theorem ref_get {n k a : Nat} (h : a < k) : (refA n k)[a]? = some (.ms (1 + a) 0 0 n 1 false) := by simp [refA, h]
theorem ref_snoc (n k : Nat) : refA n (k + 1) = refA n k ++ [.ms (1 + k) 0 0 n 1 false] := by unfold refA; rw [List.range_succ, List.map_append]; rfl
theorem re_at {n k m : Nat} {R : Nat → Nat → Bool} {a : Nat} (h : a < m) : (reH n k m R)[1 + a]? = some (rwE n (R a)) := by
  rw [Nat.add_comm]
  show ((List.range m).map fun a => rwE n (R a))[a]? = _
  simp [h]
theorem re_congr {n k m : Nat} {R R' : Nat → Nat → Bool} (h : ∀ a, a < m → ∀ j, j < n → R a j = R' a j) : reH n k m R = reH n k m R' := by
  unfold reH
  congr 1
  refine List.map_congr_left fun a ha => ?_
  unfold rwE
  rw [boo_congr (h a (List.mem_range.1 ha))]
def updR (R : Nat → Nat → Bool) (i j : Nat) (b : Bool) : Nat → Nat → Bool := fun a c => if a = i then (if c = j then b else R i c) else R a c
theorem re_set {n k m : Nat} {R : Nat → Nat → Bool} {i j : Nat} (b : Bool) (hi : i < m) (hj : j < n) : (reH n k m R).set (1 + i) (0, some (.cells (setRange (booA n (R i)) j [.bool b]) ⟨false, none⟩)) = reH n k m (updR R i j b) := by
  rw [boo_set b hj, Nat.add_comm]
  show (k, _) :: ((List.range m).map fun a => rwE n (R a)).set i (rwE n _) = (k, _) :: _
  congr 1
  apply List.ext_getElem
  · simp
  · intro a h1 h2
    have ha : a < m := by simpa using h1
    rw [List.getElem_set, List.getElem_map, List.getElem_map, List.getElem_range]
    unfold updR
    by_cases e : i = a
    · subst e; rw [if_pos rfl]; simp
    · rw [if_neg e]; simp [Ne.symm e]
theorem re_snoc (n k m : Nat) (R : Nat → Nat → Bool) (P : Nat → Bool) : reH n k m R ++ [rwE n P] = reH n k (m + 1) (fun a c => if a = m then P c else R a c) := by
  unfold reH
  rw [List.cons_append, List.range_succ, List.map_append]
  congr 2
  · refine List.map_congr_left fun a ha => ?_
    have := List.mem_range.1 ha
    unfold rwE
    rw [boo_congr]
    intro j _
    show R a j = if a = m then P j else R a j
    rw [if_neg (by omega)]
  · simp
theorem re_alive (n k m : Nat) (R : Nat → Nat → Bool) : ∀ e ∈ reH n k m R, ∃ x, e.2 = some x := fun e he => by
  rcases List.mem_cons.1 he with rfl | he
  · exact ⟨_, rfl⟩
  · obtain ⟨a, _, rfl⟩ := List.mem_map.1 he; exact ⟨_, rfl⟩
theorem re_len (n k m : Nat) (R : Nat → Nat → Bool) : (reH n k m R).length = 1 + m := by simp [reH]; omega
def warIn (M : Nat → Nat → Bool) (k i j : Nat) : Nat → Nat → Bool := fun a b => if a < i ∨ (a = i ∧ b < j) then warK M k a b else M a b
theorem warIn_row (M : Nat → Nat → Bool) (k i j a : Nat) : warIn M k i j a k = M a k := by
  unfold warIn warK
  split
  · cases M a k <;> simp
  · rfl
theorem warIn_col (M : Nat → Nat → Bool) (k i j b : Nat) : warIn M k i j k b = M k b := by
  unfold warIn warK
  split
  · cases M k b <;> simp
  · rfl
theorem warIn_step (M : Nat → Nat → Bool) (k i j : Nat) : warIn M k i (j + 1) = updR (warIn M k i j) i j (warIn M k i j i j || (warIn M k i j i k && warIn M k i j k j)) := by
  funext a b
  rw [warIn_row, warIn_col]
  unfold updR
  by_cases h1 : a = i
  · subst h1
    rw [if_pos rfl]
    by_cases h2 : b = j
    · subst h2
      rw [if_pos rfl]
      unfold warIn
      rw [if_pos (by omega), if_neg (by omega)]; rfl
    · rw [if_neg h2]
      unfold warIn
      by_cases h3 : b < j
      · rw [if_pos (by omega), if_pos (by omega)]
      · rw [if_neg (by omega), if_neg (by omega)]
  · rw [if_neg h1]
    unfold warIn
    by_cases h3 : a < i
    · rw [if_pos (by omega), if_pos (by omega)]
    · rw [if_neg (by omega), if_neg (by omega)]
theorem updR_self (R : Nat → Nat → Bool) (i j : Nat) : updR R i j (R i j) = R := by
  funext a b
  unfold updR
  by_cases h1 : a = i
  · rw [if_pos h1]
    by_cases h2 : b = j
    · rw [if_pos h2, h1, h2]
    · rw [if_neg h2, h1]
  · rw [if_neg h1]
theorem Reach_ok (st st' fl : Bool) (l : List Tg) (hok : NmOk l) (hz : TgSz l) : Calc cx 23 [.sl st' fl 5 (tgs st l)] (.sl true false 1 (rowsA l.length l.length (rchG l))) :=
  ⟨.sl (fun _ => rfl) (fun x hx => by obtain ⟨a, _, rfl⟩ := List.mem_map.1 hx; exact .sl (fun _ => rfl) (boo_free _ _)), callOk_introT (fun a w => Tryd.call23 a w) Tryd.func23 rfl Tryd.ntmps23 rfl fun B => by
    have hl60 := hok.len
    have hll := tgs_len st l
    have hT := fun name => TargetAt_ok st st' fl l name (by omega)
    have hil : ∀ (i : Nat), i < l.length → decide ((i : Int) < (((tgs st l).length : Nat) : Int)) = true := fun i h => decide_eq_true (by omega)
    have hex : ∀ (i : Nat), i = l.length → decide ((i : Int) < (((tgs st l).length : Nat) : Int)) = false := fun i h => decide_eq_false (by omega)
    have hget : ∀ (i : Nat) (h : i < l.length), (tgs st l)[(i : Int).toNat]? = some (tgA st l[i]) := fun i h => by rw [Int.toNat_natCast]; exact tgs_get h
    refine pB [] rfl ?_
    refine S_ghostF (t := 3) (gid := 0) (gver := 0) (σ' := reH l.length 0 0 (edG l)) 1 ⟨false, none⟩ rfl rfl ⟨_, _, .inl rfl⟩ ?_
    refine S_while (α := Nat) (fun i => [(0, .sl st' fl 5 (tgs st l)), (3, .ms 0 i 0 i 1 false), (4, .int .i64 (i : Nat))]) (fun i => reH l.length i i (edG l)) (fun i => i ≤ l.length) (fun i => l.length - i) 0 (Nat.zero_le _) (.cons rfl (.cons rfl (.cons rfl (.nil _)))) rfl ?_
    intro i hi
    by_cases hlt : i < l.length
    · have c2 := hil i hlt
      have c3 := hget i hlt
      have hnl := hz.nd _ (List.getElem_mem hlt)
      have hmem : l[i] ∈ l := List.getElem_mem hlt
      have hedge : ∀ c, c < l.length → edG l i c = decide (nmAt l c ∈ l[i].needs) := fun c hc => by
        rw [Bool.eq_iff_iff, edG_iff, decide_eq_true_eq, nmAt_get hc]
        exact ⟨fun ⟨_, _, h⟩ => h, fun h => ⟨hlt, hc, h⟩⟩
      have hcln := hok.cl _ hmem
      generalize l[i] = t at *
      have htl := texts_len t.needs
      refine pas [.b true, .s] rfl ?_ ?_
      · (repeat' with_reducible apply AllP_cons) <;> try exact aC
      refine pasn 2 [] rfl ?_ ?_
      · (repeat' with_reducible apply AllP_cons) <;> try exact aC
      refine S_spec (OpSpec.makeE (m := l.length) (z := .bool false) rfl rfl rfl rfl ?_ ?_ rfl (re_alive _ _ _ _) ?_ ?_) rfl rfl ?_
      · exact congrArg (fun m : Nat => AV.int .i64 (m : Nat)) hll
      · exact congrArg (fun m : Nat => AV.int .i64 (m : Nat)) hll
      · show 1 * l.length ≤ 281474976710656
        omega
      · omega
      refine S_heap (reH l.length i (i + 1) (fun a c => if a = i then decide (nmAt l c ∈ t.needs.take 0) else edG l a c)) ?_ ?_
      · have : repA l.length [.bool false] = booA l.length (fun _ => false) := by
          unfold repA booA
          exact (List.map_const' (l := List.range l.length) (b := AV.bool false)).symm ▸ (by rw [List.length_range])
        rw [this]
        exact (re_snoc l.length i i (edG l) fun _ => false).trans (re_congr fun a ha j hj => by
          show (if a = i then false else edG l a j) = (if a = i then decide (nmAt l j ∈ t.needs.take 0) else edG l a j)
          rw [List.take_zero]; simp)
      refine pas [] rfl ?_ ?_
      · (repeat' with_reducible apply AllP_cons) <;> try exact aC
      refine S_while (α := Nat) (fun j => [(0, .sl st' fl 5 (tgs st l)), (3, .ms 0 i 0 i 1 false), (4, .int .i64 (i : Nat)), (5, .ms (1 + i) 0 0 l.length 1 false), (6, .int .i64 (j : Nat))])
        (fun j => reH l.length i (i + 1) (fun a c => if a = i then decide (nmAt l c ∈ t.needs.take j) else edG l a c)) (fun j => j ≤ t.needs.length) (fun j => t.needs.length - j) 0 (Nat.zero_le _)
        (.cons rfl (.cons rfl (.cons rfl (.cons (congrArg (fun m : Nat => AV.ms m 0 0 l.length 1 false) (re_len ..)) (.cons rfl (.nil _)))))) rfl ?_
      intro j hj
      by_cases hjl : j < t.needs.length
      · have d2 : decide ((j : Int) < (((texts t.needs).length : Nat) : Int)) = true := decide_eq_true (by omega)
        have d3 : (texts t.needs)[(j : Int).toNat]? = some (.str t.needs[j]) := by rw [Int.toNat_natCast]; exact texts_get hjl
        have hkm := hcln _ (List.getElem_mem hjl)
        have htk : t.needs.take (j + 1) = t.needs.take j ++ [t.needs[j]] := List.take_succ_eq_append_getElem hjl
        generalize t.needs[j] = k at *
        have hTk := hT k
        have htA : tAt l k = ((atG l k : Nat) : Int) := by unfold tAt; rw [if_pos hkm]
        rw [htA] at hTk
        have hat := atG_lt hkm
        refine pas [.v (tgA st t), .b true, .v (tgA st t), .v (.str k), .v (.int .i64 ((atG l k : Nat) : Int)), .v .top, .s] rfl ?_ ?_
        · (repeat' with_reducible apply AllP_cons) <;> try exact aC
          · exact ⟨_, hTk, .cons (tgs_arg ..) (.cons (.refl .str) (.nil _))⟩
        refine S_spec (OpSpec.storeE (id := 1 + i) (ver := 0) (gT := none) (cs := booA l.length (fun c => decide (nmAt l c ∈ t.needs.take j))) (y := .bool true) rfl rfl rfl rfl rfl rfl ?_ ?_) rfl rfl ?_
        · refine (re_at (Nat.lt_succ_self i)).trans ?_
          unfold rwE
          rw [boo_congr (Q := fun c => decide (nmAt l c ∈ t.needs.take j))]
          intro c _
          rw [if_pos rfl]
        · show offN 0 (mulN (((atG l k : Nat) : Int)).toNat 1) + 1 ≤ _
          rw [offN_eq, mulN_eq, Int.toNat_natCast, boo_len]; omega
        refine S_heap (reH l.length i (i + 1) (fun a c => if a = i then decide (nmAt l c ∈ t.needs.take (j + 1)) else edG l a c)) ?_ ?_
        · have e : offN 0 (mulN (((atG l k : Nat) : Int)).toNat 1) = atG l k := by rw [offN_eq, mulN_eq, Int.toNat_natCast]; omega
          show (reH l.length i (i + 1) (fun a c => if a = i then decide (nmAt l c ∈ t.needs.take j) else edG l a c)).set (1 + i) (0, some (.cells (setRange (booA l.length (fun c => decide (nmAt l c ∈ t.needs.take j))) (offN 0 (mulN (((atG l k : Nat) : Int)).toNat 1)) [.bool true]) ⟨false, none⟩)) = _
          rw [e]
          have h0 := re_set (n := l.length) (k := i) (m := i + 1) (R := fun a c => if a = i then decide (nmAt l c ∈ t.needs.take j) else edG l a c) (i := i) (j := atG l k) true (Nat.lt_succ_self i) hat
          simp only [if_true] at h0
          rw [h0]
          refine re_congr fun a ha c hc => ?_
          show (if a = i then (if c = atG l k then true else if i = i then decide (nmAt l c ∈ t.needs.take j) else edG l i c) else if a = i then decide (nmAt l c ∈ t.needs.take j) else edG l a c) = if a = i then decide (nmAt l c ∈ t.needs.take (j + 1)) else edG l a c
          by_cases h1 : a = i
          · rw [if_pos h1, if_pos h1, if_pos rfl, htk]
            by_cases h2 : c = atG l k
            · rw [if_pos h2, h2, nmAt_at hkm]; simp
            · rw [if_neg h2, Bool.eq_iff_iff, decide_eq_true_eq, decide_eq_true_eq, List.mem_append, List.mem_singleton]
              exact ⟨.inl, fun h => h.elim id fun e => absurd (by rw [← e, atG_at hok.nd hc]) h2⟩
          · rw [if_neg h1, if_neg h1, if_neg h1]
        refine pas [] rfl ?_ ?_
        · (repeat' with_reducible apply AllP_cons) <;> try exact aC
        exact S_round (j + 1) (by show t.needs.length - (j + 1) < t.needs.length - j; omega) hjl (.cons rfl (.cons rfl (.cons rfl (.cons rfl (.cons (ai64 (by omega) (by omega)) (.nil _)))))) rfl
      · have hj : j ≤ t.needs.length := hj
        have hje : j = t.needs.length := by omega
        have d2 : decide ((j : Int) < (((texts t.needs).length : Nat) : Int)) = false := decide_eq_false (by omega)
        refine S_heap (reH l.length i (i + 1) (edG l)) ?_ ?_
        · refine re_congr fun a ha c hc => ?_
          by_cases h1 : a = i
          · rw [if_pos h1, h1, hedge c hc, hje, List.take_length]
          · rw [if_neg h1]
        refine pas [.v (tgA st t), .b false] rfl ?_ ?_
        · (repeat' with_reducible apply AllP_cons) <;> try exact aC
          · show 0 + i * 1 = (refA l.length i).length
            rw [ref_len]; omega
          · show (i + 1) * 24 ≤ 140737488355328
            omega
        refine S_round (i + 1) (by show l.length - (i + 1) < l.length - i; omega) hlt (.cons rfl (.cons rfl (.cons (ai64 (by omega) (by omega)) (.nil _)))) ?_
        show (i + 1, some (Box.cells (refA l.length i ++ [.ms (1 + i) 0 0 l.length 1 false]) ⟨false, none⟩)) :: _ = (i + 1, some (Box.cells (refA l.length (i + 1)) ⟨false, none⟩)) :: _
        rw [ref_snoc]
    · have hi : i ≤ l.length := hi
      have hie : i = l.length := by omega
      subst hie
      have c2 := hex _ rfl
      have hdr : ∀ a, a < l.length → (List.drop (offN 0 (mulN ((a : Int)).toNat 1)) (refA l.length l.length))[0]? = some (.ms (1 + a) 0 0 l.length 1 false) := fun a ha => by
        rw [offN_eq, mulN_eq, Int.toNat_natCast, List.getElem?_drop]
        have e : 0 + a * 1 + 0 = a := by omega
        rw [e]; exact ref_get ha
      have hdb : ∀ (P : Nat → Bool) c, c < l.length → (List.drop (offN 0 (mulN ((c : Int)).toNat 1)) (booA l.length P))[0]? = some (.bool (P c)) := fun P c hc => by
        rw [offN_eq, mulN_eq, Int.toNat_natCast, List.getElem?_drop]
        have e : 0 + c * 1 + 0 = c := by omega
        rw [e]; exact boo_get hc
      refine pas [.b false] rfl ?_ ?_
      · (repeat' with_reducible apply AllP_cons) <;> try exact aC
      refine S_while (α := Nat) (fun k => [(0, .sl st' fl 5 (tgs st l)), (3, .ms 0 l.length 0 l.length 1 false), (7, .int .i64 (k : Nat))]) (fun k => reH l.length l.length l.length (warN (edG l) k)) (fun k => k ≤ l.length) (fun k => l.length - k) 0 (Nat.zero_le _) (.cons rfl (.cons rfl (.cons rfl (.nil _)))) rfl ?_
      intro k hk
      by_cases hkl : k < l.length
      · have d1 := hil k hkl
        have hsucc : warN (edG l) (k + 1) = warK (warN (edG l) k) k := rfl
        generalize warN (edG l) k = M at *
        refine pas [.b true] rfl ?_ ?_
        · (repeat' with_reducible apply AllP_cons) <;> try exact aC
        refine S_heap (reH l.length l.length l.length (warIn M k 0 0)) (re_congr fun a ha b hb => by unfold warIn; rw [if_neg (by omega)]) ?_
        refine S_while (α := Nat) (fun i => [(0, .sl st' fl 5 (tgs st l)), (3, .ms 0 l.length 0 l.length 1 false), (7, .int .i64 (k : Nat)), (8, .int .i64 (i : Nat))]) (fun i => reH l.length l.length l.length (warIn M k i 0)) (fun i => i ≤ l.length) (fun i => l.length - i) 0 (Nat.zero_le _) (.cons rfl (.cons rfl (.cons rfl (.cons rfl (.nil _))))) rfl ?_
        intro i hi
        by_cases hil2 : i < l.length
        · have d2 := hil i hil2
          refine pas [.b true] rfl ?_ ?_
          · (repeat' with_reducible apply AllP_cons) <;> try exact aC
          refine S_while (α := Nat) (fun j => [(0, .sl st' fl 5 (tgs st l)), (3, .ms 0 l.length 0 l.length 1 false), (7, .int .i64 (k : Nat)), (8, .int .i64 (i : Nat)), (9, .int .i64 (j : Nat))]) (fun j => reH l.length l.length l.length (warIn M k i j)) (fun j => j ≤ l.length) (fun j => l.length - j) 0 (Nat.zero_le _) (.cons rfl (.cons rfl (.cons rfl (.cons rfl (.cons rfl (.nil _)))))) rfl ?_
          intro j hj
          by_cases hjl : j < l.length
          · have d3 := hil j hjl
            have hstep := warIn_step M k i j
            generalize warIn M k i j = R at *
            have t1 : decide ((i : Int) < (l.length : Int)) = true := decide_eq_true (by omega)
            refine pas [.b true, .v .top, .v (.ms (1 + i) 0 0 l.length 1 false), .v .top, .s] rfl ?_ ?_
            · (repeat' with_reducible apply AllP_cons) <;> try exact aC
              · exact hdr i hil2
            refine S_spec (OpSpec.loadE (id := 1 + i) (ver := 0) (cs := booA l.length (R i)) (g := ⟨false, none⟩) (x := .bool (R i k)) rfl rfl rfl rfl (re_at hil2) (hdb (R i) k hkl)) rfl rfl ?_
            have next : ∀ (fr : Fr) (K : List AI), True := fun _ _ => trivial
            cases hik : R i k with
            | false =>
              rw [hik, Bool.false_and, Bool.or_false, updR_self] at hstep
              refine pas [.b false, .b false] rfl ?_ ?_
              · (repeat' with_reducible apply AllP_cons) <;> try exact aC
              refine S_round (j + 1) (by show l.length - (j + 1) < l.length - j; omega) hjl (.cons rfl (.cons rfl (.cons rfl (.cons rfl (.cons (ai64 (by omega) (by omega)) (.nil _)))))) ?_
              show reH _ _ _ R = reH _ _ _ (warIn M k i (j + 1))
              rw [hstep]
            | true =>
              refine pas [.b true, .v .top, .v (.ms (1 + k) 0 0 l.length 1 false), .v .top, .s] rfl ?_ ?_
              · (repeat' with_reducible apply AllP_cons) <;> try exact aC
                · exact hdr k hkl
              refine S_spec (OpSpec.loadE (id := 1 + k) (ver := 0) (cs := booA l.length (R k)) (g := ⟨false, none⟩) (x := .bool (R k j)) rfl rfl rfl rfl (re_at hkl) (hdb (R k) j hjl)) rfl rfl ?_
              cases hkj : R k j with
              | false =>
                rw [hkj, Bool.and_false, Bool.or_false, updR_self] at hstep
                refine pas [.b false] rfl ?_ ?_
                · (repeat' with_reducible apply AllP_cons) <;> try exact aC
                refine S_round (j + 1) (by show l.length - (j + 1) < l.length - j; omega) hjl (.cons rfl (.cons rfl (.cons rfl (.cons rfl (.cons (ai64 (by omega) (by omega)) (.nil _)))))) ?_
                show reH _ _ _ R = reH _ _ _ (warIn M k i (j + 1))
                rw [hstep]
              | true =>
                rw [hik, hkj, Bool.and_self, Bool.or_true] at hstep
                refine pas [.b true, .v .top, .v (.ms (1 + i) 0 0 l.length 1 false), .v .top, .s] rfl ?_ ?_
                · (repeat' with_reducible apply AllP_cons) <;> try exact aC
                  · exact hdr i hil2
                refine S_spec (OpSpec.storeE (id := 1 + i) (ver := 0) (gT := none) (cs := booA l.length (R i)) (y := .bool true) rfl rfl rfl rfl rfl rfl (re_at hil2) ?_) rfl rfl ?_
                · show offN 0 (mulN ((j : Int)).toNat 1) + 1 ≤ _
                  rw [offN_eq, mulN_eq, Int.toNat_natCast, boo_len]; omega
                refine S_heap (reH l.length l.length l.length (warIn M k i (j + 1))) ?_ ?_
                · have e : offN 0 (mulN ((j : Int)).toNat 1) = j := by rw [offN_eq, mulN_eq, Int.toNat_natCast]; omega
                  show (reH l.length l.length l.length R).set (1 + i) (0, some (.cells (setRange (booA l.length (R i)) (offN 0 (mulN ((j : Int)).toNat 1)) [.bool true]) ⟨false, none⟩)) = _
                  rw [e, re_set true hil2 hjl, hstep]
                refine pas [] rfl ?_ ?_
                · (repeat' with_reducible apply AllP_cons) <;> try exact aC
                exact S_round (j + 1) (by show l.length - (j + 1) < l.length - j; omega) hjl (.cons rfl (.cons rfl (.cons rfl (.cons rfl (.cons (ai64 (by omega) (by omega)) (.nil _)))))) rfl
          · have hj : j ≤ l.length := hj
            have hje : j = l.length := by omega
            have d3 := hex j hje
            refine pas [.b false] rfl ?_ ?_
            · (repeat' with_reducible apply AllP_cons) <;> try exact aC
            refine S_round (i + 1) (by show l.length - (i + 1) < l.length - i; omega) hil2 (.cons rfl (.cons rfl (.cons rfl (.cons (ai64 (by omega) (by omega)) (.nil _))))) ?_
            refine re_congr fun a ha b hb => ?_
            unfold warIn
            by_cases h1 : a < i ∨ (a = i ∧ b < j)
            · rw [if_pos h1, if_pos (by omega)]
            · rw [if_neg h1, if_neg (by omega)]
        · have hi : i ≤ l.length := hi
          have hie : i = l.length := by omega
          have d2 := hex i hie
          refine pas [.b false] rfl ?_ ?_
          · (repeat' with_reducible apply AllP_cons) <;> try exact aC
          refine S_round (k + 1) (by show l.length - (k + 1) < l.length - k; omega) hkl (.cons rfl (.cons rfl (.cons (ai64 (by omega) (by omega)) (.nil _)))) ?_
          show reH _ _ _ (warIn M k i 0) = reH _ _ _ (warN (edG l) (k + 1))
          rw [hsucc]
          refine re_congr fun a ha b hb => ?_
          unfold warIn
          rw [if_pos (by omega)]
      · have hk : k ≤ l.length := hk
        have hke : k = l.length := by omega
        have d1 := hex k hke
        subst hke
        refine pas [.b false] rfl ?_ ?_
        · (repeat' with_reducible apply AllP_cons) <;> try exact aC
        refine S_ret ⟨_, _, rfl, trivial, 0, Nat.le_refl _, LowH.of (fun e he => by simp at he), _, ?_, rfl, rfl⟩
        show FzT 0 (reH l.length l.length l.length (rchG l)) (.ms 0 l.length 0 l.length 1 false) (.sl true false 1 (rowsA l.length l.length (rchG l)))
        have hro : ∀ x ∈ rowsA l.length l.length (rchG l), x.one = true := fun x hx => by obtain ⟨a, _, rfl⟩ := List.mem_map.1 hx; rfl
        have hrl : (rowsA l.length l.length (rchG l)).length = l.length := by simp [rowsA]
        have hfm : (rowsA l.length l.length (rchG l)).flatMap AV.cells = rowsA l.length l.length (rchG l) := ones_flat hro
        refine FzT.ms (cs := refA l.length l.length) (g := ⟨false, none⟩) (ys := refA l.length l.length) (Nat.zero_le _) rfl (by rw [ref_len]; omega) (by rw [List.drop_zero]; exact List.take_of_length_le (by rw [ref_len]; omega)) (fun x hx => by rw [one_cells (hro x hx)]; rfl) hrl (by rw [hfm, hrl, ref_len]) (fun i h h' => ?_)
        have hi2 : i < l.length := by rw [ref_len] at h; exact h
        have e1 : (refA l.length l.length)[i] = .ms (1 + i) 0 0 l.length 1 false := by simp [refA]
        have e2 : ((rowsA l.length l.length (rchG l)).flatMap AV.cells)[i] = .sl true false 1 (booA l.length (rchG l i)) := by
          simp only [hfm]; simp [rowsA]
        rw [e1, e2]
        exact FzT.ms1 (g := ⟨false, none⟩) (Nat.zero_le _) (by unfold boxAt; rw [re_at hi2]; rfl) (boo_one _ _) (boo_len _ _) (fun x hx => Low.free (boo_free (st := true) _ _ x hx))⟩
end Go.Proofs.YtnfalbdnkgaelaaDoor
end
section
set_option linter.unusedVariables false
set_option linter.unusedSimpArgs false
set_option maxRecDepth 20000
namespace Go.Proofs.YtnfalbdnkgaelaaDoor
open Go Go.Ab
theorem HasText_ok {st fl : Bool} (l : List (List UInt8)) (s : List UInt8) (hl : l.length ≤ 9223372036854775806) : Calc cx 32 [.sl st fl 1 (texts l), .str s] (.bool (l.contains s)) :=
  pure_intro (fun a w => Tryd.call32 a w) Tryd.func32 rfl Tryd.ntmps32 rfl .bool fun B => by
    have htl := texts_len l
    refine ab 1000 rfl trivial ?_
    refine S_while (α := Nat) (fun i => [(0, .sl st fl 1 (texts l)), (1, .str s), (5, .int .i64 (i : Nat))]) (fun _ => []) (fun i => i ≤ l.length ∧ s ∉ l.take i) (fun i => l.length - i) 0
      ⟨Nat.zero_le _, by simp⟩ (.cons rfl (.cons rfl (.cons rfl (.nil _)))) rfl ?_
    rintro i ⟨hi, hN⟩
    have hi : i ≤ l.length := hi
    refine ab 1000 rfl trivial ?_
    refine S_dec rfl (fun hlt => ?_) (fun hlt => ?_)
    · have hil : i < l.length := by have : (i : Int) < ((texts l).length : Nat) := hlt; omega
      refine ab 1000 rfl trivial ?_
      refine S_index (.str l[i]) rfl rfl rfl ⟨rfl, by omega, by rw [Int.toNat_natCast]; exact texts_get hil, trivial⟩ ?_
      refine ab 1000 rfl trivial ?_
      refine S_cond rfl (fun h => ?_) (fun h => ?_)
      · have h : l[i] = s := by simpa using (show (l[i] == s) = true from h)
        refine ab 1000 rfl trivial ?_
        refine S_retc .bool rfl trivial ?_
        rw [List.contains_iff_mem.2 (by rw [← h]; exact List.getElem_mem hil)]; rfl
      · have h : l[i] ≠ s := by simpa using (show (l[i] == s) = false from h)
        refine ab 1000 rfl trivial ?_
        refine S_round (i + 1) (by show l.length - (i + 1) < l.length - i; omega) ⟨hil, fun hm => ?_⟩ (.cons rfl (.cons rfl (.cons (ai64 rfl (by omega)) (.nil _)))) rfl
        rw [List.take_succ_eq_append_getElem hil] at hm
        rcases List.mem_append.1 hm with hm | hm
        · exact hN hm
        · simp at hm; exact h hm.symm
    · have hil : i = l.length := by have : ¬ (i : Int) < ((texts l).length : Nat) := hlt; omega
      rw [hil, List.take_length] at hN
      refine ab 1000 rfl trivial ?_
      refine S_retc .bool rfl trivial ?_
      have : l.contains s = false := by
        cases h : l.contains s with
        | false => rfl
        | true => exact absurd (List.contains_iff_mem.1 h) hN
      rw [this]; rfl
end Go.Proofs.YtnfalbdnkgaelaaDoor
end
section
set_option linter.unusedVariables false
set_option linter.unusedSimpArgs false
set_option maxRecDepth 20000
set_option maxHeartbeats 1000000
namespace Go.Proofs.YtnfalbdnkgaelaaDoor
open Go Go.Ab
theorem boo_snoc (n : Nat) (P : Nat → Bool) : booA (n + 1) P = booA n P ++ [.bool (P n)] := by unfold booA; rw [List.range_succ, List.map_append]; rfl
theorem booFz {σ : Heap} {id ver n : Nat} {P : Nat → Bool} {g : Tag} (h : boxAt σ id = some (ver, booA n P, g)) : Frz true σ (.ms id ver 0 n 1 false) (.sl true false 1 (booA n P)) := by
  refine .ms h (by rw [boo_len]; omega) ?_ (fun x hx => by rw [one_cells (boo_one _ _ x hx)]; rfl) (boo_len _ _) (boo_free _ _)
  rw [ones_flat (boo_one n P), List.drop_zero]
  exact List.take_of_length_le (by rw [boo_len]; omega)
theorem Everyone_ok (st st' fl : Bool) (l : List Tg) (hl : l.length ≤ 1000) : Calc cx 15 [.sl st' fl 5 (tgs st l)] (.sl true false 1 (booA l.length fun _ => true)) :=
  pure_intro (fun a w => Tryd.call15 a w) Tryd.func15 rfl Tryd.ntmps15 rfl (.sl (fun _ => rfl) (boo_free _ _)) fun B => by
    have hll := tgs_len st l
    refine pB [] rfl ?_
    refine S_ghostF (t := 3) (gid := 0) (gver := 0) (σ' := [(0, some (.cells [] ⟨false, none⟩))]) 1 ⟨false, none⟩ rfl rfl ⟨_, _, .inl rfl⟩ ?_
    refine S_while (α := Nat) (fun i => [(0, .sl st' fl 5 (tgs st l)), (3, .ms 0 i 0 i 1 false), (4, .int .i64 (i : Nat))]) (fun i => [(i, some (.cells (booA i fun _ => true) ⟨false, none⟩))]) (fun i => i ≤ l.length) (fun i => l.length - i) 0 (Nat.zero_le _) (.cons rfl (.cons rfl (.cons rfl (.nil _)))) rfl ?_
    intro i hi
    have hi : i ≤ l.length := hi
    by_cases hlt : i < l.length
    · have c2 : decide ((i : Int) < (((tgs st l).length : Nat) : Int)) = true := decide_eq_true (by omega)
      have hbl := boo_len i fun _ => true
      refine pa [.b true] rfl ?_ ?_
      · (repeat' with_reducible apply AllP_cons) <;> try exact aC
        · show 0 + i * 1 = (booA i fun _ => true).length
          omega
        · show (i + 1) * 1 ≤ 140737488355328
          omega
      refine S_round (i + 1) (by show l.length - (i + 1) < l.length - i; omega) hlt (.cons rfl (.cons rfl (.cons (ai64 (by omega) (by omega)) (.nil _)))) ?_
      show [(i + 1, some (Box.cells (booA i (fun _ => true) ++ [.bool true]) ⟨false, none⟩))] = [(i + 1, some (Box.cells (booA (i + 1) fun _ => true) ⟨false, none⟩))]
      rw [boo_snoc]
    · have hie : i = l.length := by omega
      have c2 : decide ((i : Int) < (((tgs st l).length : Nat) : Int)) = false := decide_eq_false (by omega)
      refine pB [.b false] rfl ?_
      refine S_ret ⟨_, _, rfl, trivial, _, rfl, ?_⟩
      rw [← hie]
      exact booFz rfl
def hcG (l : List Tg) (P : Nat → Bool) : Bool := (List.range l.length).any fun i => P i && rchG l i i
theorem HasCircle_ok (st st' fl sb fb : Bool) (l : List Tg) (P : Nat → Bool) (hok : NmOk l) (hz : TgSz l) : Calc cx 14 [.sl st' fl 5 (tgs st l), .sl sb fb 1 (booA l.length P)] (.bool (hcG l P)) :=
  pure_intro (fun a w => Tryd.call14 a w) Tryd.func14 rfl Tryd.ntmps14 rfl .bool fun B => by
    have hll := tgs_len st l
    have hl60 := hok.len
    have hR := Reach_ok st st' fl l hok hz
    refine pa [.v (.sl true false 1 (rowsA l.length l.length (rchG l)))] rfl ?_ ?_
    · (repeat' with_reducible apply AllP_cons) <;> try exact aC
      · exact ⟨_, hR, .cons (tgs_arg ..) (.nil _)⟩
    refine S_while (α := Nat) (fun i => [(0, .sl st' fl 5 (tgs st l)), (1, .sl sb fb 1 (booA l.length P)), (5, .sl true false 1 (rowsA l.length l.length (rchG l))), (6, .int .i64 (i : Nat))]) (fun _ => []) (fun i => i ≤ l.length ∧ ∀ j < i, (P j && rchG l j j) = false) (fun i => l.length - i) 0 ⟨Nat.zero_le _, fun j h => absurd h (Nat.not_lt_zero _)⟩ (.cons rfl (.cons rfl (.cons rfl (.cons rfl (.nil _))))) rfl ?_
    rintro i ⟨hi, hn⟩
    by_cases hlt : i < l.length
    · have c2 : decide ((i : Int) < (((tgs st l).length : Nat) : Int)) = true := decide_eq_true (by omega)
      have c3 : (booA l.length P)[(i : Int).toNat]? = some (.bool (P i)) := by rw [Int.toNat_natCast]; exact boo_get hlt
      have c4 : (rowsA l.length l.length (rchG l))[(i : Int).toNat]? = some (.sl true false 1 (booA l.length (rchG l i))) := by rw [Int.toNat_natCast]; simp [rowsA, hlt]
      have c5 : (booA l.length (rchG l i))[(i : Int).toNat]? = some (.bool (rchG l i i)) := by rw [Int.toNat_natCast]; exact boo_get hlt
      have hns : ∀ (h : (P i && rchG l i i) = false), ∀ j < i + 1, (P j && rchG l j j) = false := fun h j hj => by
        by_cases e : j < i
        · exact hn j e
        · have : j = i := by omega
          subst this; exact h
      cases hp : P i with
      | false =>
        rw [hp] at c3
        refine pB [.b true, .v (.bool false), .b false, .b false] rfl ?_
        exact S_round (i + 1) (by show l.length - (i + 1) < l.length - i; omega) ⟨hlt, hns (by rw [hp]; rfl)⟩ (.cons rfl (.cons rfl (.cons rfl (.cons (ai64 (by omega) (by omega)) (.nil _))))) rfl
      | true =>
        rw [hp] at c3
        cases hr : rchG l i i with
        | false =>
          rw [hr] at c5
          refine pB [.b true, .v (.bool true), .b true, .v (.sl true false 1 (booA l.length (rchG l i))), .v (.bool false), .b false] rfl ?_
          exact S_round (i + 1) (by show l.length - (i + 1) < l.length - i; omega) ⟨hlt, hns (by rw [hp, hr]; rfl)⟩ (.cons rfl (.cons rfl (.cons rfl (.cons (ai64 (by omega) (by omega)) (.nil _))))) rfl
        | true =>
          rw [hr] at c5
          refine pB [.b true, .v (.bool true), .b true, .v (.sl true false 1 (booA l.length (rchG l i))), .v (.bool true), .b true] rfl ?_
          refine S_retc .bool rfl trivial ?_
          have : hcG l P = true := List.any_eq_true.2 ⟨i, List.mem_range.2 hlt, by rw [hp, hr]; rfl⟩
          rw [this]; rfl
    · have hi : i ≤ l.length := hi
      have hie : i = l.length := by omega
      have c2 : decide ((i : Int) < (((tgs st l).length : Nat) : Int)) = false := decide_eq_false (by omega)
      refine pB [.b false] rfl ?_
      refine S_retc .bool rfl trivial ?_
      have : hcG l P = false := List.any_eq_false.2 fun j hj => by rw [hn j (by rw [hie]; exact List.mem_range.1 hj)]; simp
      rw [this]; rfl
def smG (l : List Tg) (P : Nat → Bool) (i : Nat) : List Nm := ((List.range i).filter P).map (nmAt l)
theorem smG_nodup {l : List Tg} (hn : (nmsG l).Nodup) (P : Nat → Bool) : (smG l P l.length).Nodup := by
  unfold smG
  have h1 : ((List.range l.length).filter P).Nodup := List.nodup_range.filter _
  exact List.pairwise_map.2 (List.Pairwise.imp_of_mem (fun {a c} ha hc (hne : a ≠ c) e => hne (nmAt_inj hn (List.mem_range.1 (List.mem_filter.1 ha).1) (List.mem_range.1 (List.mem_filter.1 hc).1) e)) h1)
theorem smG_mem {l : List Tg} {P : Nat → Bool} {i : Nat} {x : Nm} : x ∈ smG l P i ↔ ∃ j, j < i ∧ P j = true ∧ nmAt l j = x := by
  unfold smG
  rw [List.mem_map]
  constructor
  · rintro ⟨j, hj, rfl⟩
    obtain ⟨h1, h2⟩ := List.mem_filter.1 hj
    exact ⟨j, List.mem_range.1 h1, h2, rfl⟩
  · rintro ⟨j, h1, h2, rfl⟩
    exact ⟨j, List.mem_filter.2 ⟨List.mem_range.2 h1, h2⟩, rfl⟩
end Go.Proofs.YtnfalbdnkgaelaaDoor
end
