/-
  Texts of our own, in one file.
-/
import Derived.Test.YtjaflkgfipaajaaGrpC
section
set_option linter.unusedVariables false
set_option linter.unusedSimpArgs false
set_option maxRecDepth 20000
set_option maxHeartbeats 2000000
namespace Go.Proofs.Ytjaflkgfipaajaa
open Go Go.Ab
def lessJ (t : QT) (k : Nat) : QT := ⟨t.num, t.cred, t.turn, t.jobs.eraseIdx k⟩
def takR (ring : List QT) (i k : Nat) : List QT := match ring[i]? with
  | none => ring
  | some t => if (t.jobs.eraseIdx k) = [] then ring.eraseIdx i else ring.set i (lessJ t k)
theorem jbC_erase (l : List QJ) {k : Nat} (h : k < l.length) : (jbC l).take (k * 3) ++ (jbC l).drop ((k + 1) * 3) = jbC (l.eraseIdx k) := by
  rw [jbC_take l (by omega), jbC_drop l h, ← jbC_app, List.eraseIdx_eq_take_drop_succ]
theorem many_erase : ∀ {ring : List QT} {i : Nat} (hi : i < ring.length), manyQ (ring.eraseIdx i) + ring[i].jobs.length = manyQ ring
  | [], i, hi => by cases hi
  | x :: r, 0, hi => by simp only [List.eraseIdx_cons_zero, manyQ, List.getElem_cons_zero]; omega
  | x :: r, i + 1, hi => by
    have := many_erase (ring := r) (i := i) (Nat.lt_of_succ_lt_succ hi)
    simp only [List.eraseIdx_cons_succ, manyQ, List.getElem_cons_succ]; omega
theorem QAt.gone {σ : Heap} {q rid rv : Nat} {es : List QL} {quan : Int} {ring : List QT} (h : QAt σ q rid rv es quan ring) {i : Nat} (hi : i < ring.length) (hj : ring[i].jobs = []) :
    QAt ((σ.set rid (rv, some (.cells ((rgC es).take (i * 1) ++ (rgC es).drop ((i + 1) * 1)) ⟨false, none⟩))).set q (0, some (.cells [.int .i64 quan, .ms rid rv 0 (ring.length - 1) 1 false, .int .i64 (manyQ ring : Nat)] ⟨false, some 56⟩))) q rid rv (es.eraseIdx i) quan (ring.eraseIdx i) := by
  have hqr := h.ap.qr
  have hlen := h.tn.len
  refine ⟨Alive.set (Alive.set h.al _ _ _) _ _ _, ?_, ?_, ?_, h.ap.erase i⟩
  · have h1 : (σ.set rid (rv, some (.cells ((rgC es).take (i * 1) ++ (rgC es).drop ((i + 1) * 1)) ⟨false, none⟩)))[q]? = some (0, some (quB quan rid rv ring)) := by rw [set_ne hqr]; exact h.qb
    rw [set_eq h1]
    have hm := many_erase hi
    rw [hj] at hm
    unfold quB
    rw [List.length_eraseIdx_of_lt hi]
    have : manyQ (ring.eraseIdx i) = manyQ ring := by simpa using hm
    rw [this]
  · rw [set_ne (Ne.symm hqr), set_eq h.rb]
    have : rgC (es.eraseIdx i) = (rgC es).take (i * 1) ++ (rgC es).drop ((i + 1) * 1) := by
      unfold rgC
      rw [Nat.mul_one, Nat.mul_one, ← List.map_take, ← List.map_drop, ← List.map_append, List.eraseIdx_eq_take_drop_succ]
    rw [this]
  · refine (h.tn.erase i).keep fun e he => ?_
    have hem : e ∈ es := List.mem_of_mem_eraseIdx he
    obtain ⟨a1, a2, a3, a4, a5⟩ := h.ap.at_ e.ids (List.mem_map_of_mem hem)
    exact ⟨by rw [set_ne (show e.tid ≠ q from a1), set_ne (show e.tid ≠ rid from a3)], by rw [set_ne (show e.jid ≠ q from a2), set_ne (show e.jid ≠ rid from a4)]⟩
theorem QAt.goneK {σ : Heap} {q rid : Nat} {es : List QL} {i : Nat} {x y : Nat × Option Box} : QKeep σ ((σ.set rid x).set q y) (Own q rid es) (Own q rid (es.eraseIdx i)) := by
  refine ⟨by simp, fun id hid hno => ?_, fun id hid => .inl ?_⟩
  · rw [set_ne (fun e => hno (.inl e)), set_ne (fun e => hno (.inr (.inl e)))]
  · rcases hid with h1 | h1 | ⟨e, he, h1⟩
    · exact .inl h1
    · exact .inr (.inl h1)
    · exact .inr (.inr ⟨e, List.mem_of_mem_eraseIdx he, h1⟩)
theorem QAt.keep {σ σ' : Heap} {q rid rv : Nat} {es : List QL} {quan : Int} {ring : List QT} (h : QAt σ q rid rv es quan ring) (ha : Alive σ') (hk : ∀ id, Own q rid es id → σ'[id]? = σ[id]?) : QAt σ' q rid rv es quan ring :=
  ⟨ha, (hk _ (.inl rfl)).trans h.qb, (hk _ (.inr (.inl rfl))).trans h.rb, h.tn.keep fun e he => ⟨hk _ (.inr (.inr ⟨e, he, .inl rfl⟩)), hk _ (.inr (.inr ⟨e, he, .inr rfl⟩))⟩, h.ap⟩
theorem QKeep.set {σ σ' : Heap} {o o' : Nat → Prop} (h : QKeep σ σ' o o') {id : Nat} (hid : σ.length ≤ id) (x : Nat × Option Box) : QKeep σ (σ'.set id x) o o' :=
  ⟨by rw [List.length_set]; exact h.len, fun j hj hno => by rw [set_ne (by omega)]; exact h.same j hj hno, h.new⟩
theorem take_ok (σ : Heap) (q rid rv : Nat) (es : List QL) (quan : Int) (ring : List QT) (i k : Nat) (h : QAt σ q rid rv es quan ring) (hm : manyQ ring ≤ 200) (hrl : ring.length ≤ 200) (hi : i < ring.length) (hk : k < ring[i].jobs.length) :
    CallOk cx 25 [.ptr q 0 0, .int .i64 (i : Nat), .int .i64 (k : Nat)] σ (fun o s => o = .ret (jobA ring[i].jobs[k]) ∧ ∃ es', QAt s q rid rv es' quan (takR ring i k) ∧ QKeep σ s (Own q rid es) (Own q rid es')) :=
  callOk_intro (fun a w => Try.call25 a w) Try.func25 rfl Try.ntmps25 rfl fun B => by
    have hlen := h.tn.len
    have hie : i < es.length := by omega
    obtain ⟨k1, k2⟩ := h.tn.get i hie hi
    obtain ⟨a1, a2, a3, a4, a5⟩ := h.ap.one hie
    have hqr := h.ap.qr
    have hml := many_at hi
    have hrx : ((rgC es).drop (offN 0 (mulN ((i : Int)).toNat 1)))[0]? = some (.ptr es[i].tid 0 0) := by
      rw [offN_eq, mulN_eq, Int.toNat_natCast, List.getElem?_drop]
      have e : 0 + i * 1 + 0 = i := by omega
      rw [e]
      simp [rgC, hie]
    obtain ⟨g1, g2⟩ := jbC_at hk
    have c1 : decide ((i : Int) < (ring.length : Int)) = true := decide_eq_true (by omega)
    obtain ⟨z0, hz0⟩ : ∃ z0 : Nat × Option Box, z0 = (0, some (.cells [.int .i64 0, .str [], .int .i64 0] ⟨false, some 34⟩)) := ⟨_, rfl⟩
    obtain ⟨z1, hz1⟩ : ∃ z1 : Nat × Option Box, z1 = (0, some (.cells (ring[i].jobs[k]).cells ⟨false, some 34⟩)) := ⟨_, rfl⟩
    have h1 : QAt (σ ++ [z0]) q rid rv es quan ring := by rw [hz0]; exact h.app _ _
    have h3 : QAt ((σ ++ [z0]) ++ [z1]) q rid rv es quan ring := by rw [hz1]; exact h1.app _ _
    have hset2 : ((σ ++ [z0]) ++ [z0]).set (σ.length + 1) z1 = (σ ++ [z0]) ++ [z1] := by
      rw [List.set_append_right _ _ (by simp)]
      simp
    obtain ⟨k3, k4⟩ := h3.tn.get i hie hi
    have hq0 := lt_of_get h.qb
    have hr0 := lt_of_get h.rb
    have ht0 := lt_of_get k1
    have hj0 := lt_of_get k2
    have hfin := h3.jobs hie hi (lessJ ring[i] k) es[i].jv
    have hfk := h3.jobsK hie (x := (es[i].jv, some (Box.cells (jbC (lessJ ring[i] k).jobs) ⟨false, none⟩))) (y := (0, some (tnB (lessJ ring[i] k) ⟨es[i].tid, es[i].jid, es[i].jv⟩))) (z := (0, some (quB quan rid rv (ring.set i (lessJ ring[i] k))))) (jv' := es[i].jv)
    have hms := many_set (t := lessJ ring[i] k) hi
    have hll : (lessJ ring[i] k).jobs.length = ring[i].jobs.length - 1 := List.length_eraseIdx_of_lt hk
    have hD := DeleteJ_ok ((σ ++ [z0]) ++ [z1]) es[i].jid es[i].jv ring[i].jobs.length k (jbC ring[i].jobs) false none k4 (jbC_len _) hk (by omega)
    rw [jbC_erase _ hk] at hD
    obtain ⟨J2, hJ2⟩ : ∃ J2 : Nat × Option Box, J2 = (es[i].jv, some (.cells (jbC (lessJ ring[i] k).jobs) ⟨false, none⟩)) := ⟨_, rfl⟩
    obtain ⟨T2, hT2⟩ : ∃ T2 : Nat × Option Box, T2 = (0, some (tnB (lessJ ring[i] k) ⟨es[i].tid, es[i].jid, es[i].jv⟩)) := ⟨_, rfl⟩
    obtain ⟨Q2, hQ2⟩ : ∃ Q2 : Nat × Option Box, Q2 = (0, some (quB quan rid rv (ring.set i (lessJ ring[i] k)))) := ⟨_, rfl⟩
    have hkw : IntKind.i64.wrap ((k : Int) + 1) = ((k + 1 : Nat) : Int) := w64 (by omega) (by omega)
    rw [← hkw] at hD
    have hmw : IntKind.i64.wrap (((manyQ ring : Nat) : Int) - 1) = ((manyQ (ring.set i (lessJ ring[i] k)) : Nat) : Int) := w64 (by omega) (by omega)
    rw [← hJ2, ← hT2, ← hQ2] at hfin hfk
    rw [show (lessJ ring[i] k).jobs = ring[i].jobs.eraseIdx k from rfl] at hJ2
    rw [← hJ2] at hD
    refine pao [.f (.ptr σ.length 0 0) (fun s => s ++ [z0]), .v (.ms rid rv 0 ring.length 1 false), .v .top, .v (.ptr es[i].tid 0 0), .v (.ms es[i].jid es[i].jv 0 ring[i].jobs.length 3 false), .v .top, .v (jobA ring[i].jobs[k]), .f (.ptr (σ.length + 1) 0 0) (fun s => s ++ [z0]), .f (.tup []) (fun _ => (σ ++ [z0]) ++ [z1]),
      .v (.ms es[i].jid es[i].jv 0 ring[i].jobs.length 3 false), .f (.ms es[i].jid es[i].jv 0 (ring[i].jobs.length - 1) 3 false) (fun s => s.set es[i].jid J2), .f (.tup []) (fun s => s.set es[i].tid T2), .v (.int .i64 (manyQ ring : Nat)), .f (.tup []) (fun s => s.set q Q2), .v (.ms es[i].jid es[i].jv 0 (ring[i].jobs.length - 1) 3 false)] rfl ?_ ?_
    · (repeat' with_reducible apply AllP_cons) <;> try exact aC
      · rw [hz0]; exact OpSpec.allocE rfl rfl rfl rfl h.al
      · exact OpSpec.loadP rfl rfl rfl rfl h1.qb rfl
      · exact OpSpec.loadE rfl rfl rfl rfl h1.rb hrx
      · exact OpSpec.loadP rfl rfl rfl rfl (app_get k1) rfl
      · exact OpSpec.loadEA rfl rfl rfl rfl (app_get k2) g2 (by show jobA ring[i].jobs[k] = AV.agg (List.take 3 (List.drop (offN 0 (mulN ((k : Int)).toNat 3)) (jbC ring[i].jobs))); rw [g1]; rfl)
      · have hl1 : (σ ++ [z0]).length = σ.length + 1 := by simp
        have hal : Alive (σ ++ [z0]) := h1.al
        rw [← hl1]
        show OpSpec cx 59 _ (σ ++ [z0]) _ _ ((σ ++ [z0]) ++ [z0])
        generalize σ ++ [z0] = σ5 at *
        rw [hz0]; exact OpSpec.allocE rfl rfl rfl rfl hal
      · refine OpSpec.storeP (id := σ.length + 1) (gT := some 34) (cs := [.int .i64 0, .str [], .int .i64 0]) (y := jobA ring[i].jobs[k]) rfl rfl rfl rfl rfl rfl ?_ (lble rfl) ?_
        · show ((σ ++ [z0]) ++ [z0])[σ.length + 1]? = _
          rw [List.getElem?_append_right (by simp)]
          simp [hz0]
        · rw [← hset2, hz1]; rfl
      · exact OpSpec.loadP rfl rfl rfl rfl k3 rfl
      · refine OpSpec.storeP (id := es[i].tid) (gT := some 63) (cs := [.int .i64 ring[i].num, .int .i64 ring[i].cred, .bool ring[i].turn, .ms es[i].jid es[i].jv 0 ring[i].jobs.length 3 false]) rfl rfl rfl rfl rfl rfl ?_ (lble rfl) ?_
        · show ((_ : Heap).set _ _)[es[i].tid]? = _
          rw [set_ne a5]; exact k3
        · rw [hT2]; unfold tnB; rw [hll]; rfl
      · refine OpSpec.loadP (id := q) (cs := [.int .i64 quan, .ms rid rv 0 ring.length 1 false, .int .i64 (manyQ ring : Nat)]) (g := ⟨false, some 56⟩) rfl rfl rfl rfl ?_ rfl
        show (((_ : Heap).set _ _).set _ _)[q]? = _
        rw [set_ne (Ne.symm a1), set_ne (Ne.symm a2)]; exact h3.qb
      · refine OpSpec.storeP (id := q) (gT := some 56) (cs := [.int .i64 quan, .ms rid rv 0 ring.length 1 false, .int .i64 (manyQ ring : Nat)]) rfl rfl rfl rfl rfl rfl ?_ (lble rfl) ?_
        · show (((_ : Heap).set _ _).set _ _)[q]? = _
          rw [set_ne (Ne.symm a1), set_ne (Ne.symm a2)]; exact h3.qb
        · rw [hQ2]; unfold quB; rw [← hmw, List.length_set]; rfl
      · refine OpSpec.loadP (id := es[i].tid) (cs := [.int .i64 ring[i].num, .int .i64 ring[i].cred, .bool ring[i].turn, .ms es[i].jid es[i].jv 0 (ring[i].jobs.length - 1) 3 false]) (g := ⟨false, some 63⟩) rfl rfl rfl rfl ?_ rfl
        show ((((_ : Heap).set _ _).set _ _).set _ _)[es[i].tid]? = _
        rw [set_ne a1]
        have : (((σ ++ [z0]) ++ [z1]).set es[i].jid J2)[es[i].tid]? = some (0, some (tnB ring[i] es[i])) := by rw [set_ne a5]; exact k3
        rw [set_eq this, hT2]; unfold tnB; rw [hll]; rfl
    have hgz : ring[i]? = some ring[i] := List.getElem?_eq_getElem hi
    have hk0 : QKeep σ ((σ ++ [z0]) ++ [z1]) (Own q rid es) (Own q rid es) := QKeep.app.trans QKeep.app
    have hkk := hk0.trans hfk
    have hz1f : ∀ s : Heap, (∀ id, id < ((σ ++ [z0]) ++ [z1]).length → ¬ Own q rid es id → s[id]? = ((σ ++ [z0]) ++ [z1])[id]?) → s[σ.length]? = some z0 ∧ s[σ.length + 1]? = some z1 := fun s hs => by
      have n0 : ¬ Own q rid es σ.length := fun ho => by have := h.lt _ ho; omega
      have n1 : ¬ Own q rid es (σ.length + 1) := fun ho => by have := h.lt _ ho; omega
      refine ⟨?_, ?_⟩
      · rw [hs _ (by simp) n0]; exact app_get app_last
      · rw [hs _ (by simp) n1, List.getElem?_append_right (by simp)]
        simp
    by_cases hem : ring[i].jobs.eraseIdx k = []
    · have hl0 : ring[i].jobs.length - 1 = 0 := by rw [← hll]; show (ring[i].jobs.eraseIdx k).length = 0; rw [hem]; rfl
      have c5 : (((ring[i].jobs.length - 1 : Nat) : Int) == 0) = true := by rw [hl0]; rfl
      obtain ⟨σF, hσF⟩ : ∃ σF, σF = ((((σ ++ [z0]) ++ [z1]).set es[i].jid J2).set es[i].tid T2).set q Q2 := ⟨_, rfl⟩
      rw [← hσF] at hfin hfk hkk
      refine S_heap σF hσF.symm ?_
      have hn0 : ¬ Own q rid (es.set i ⟨es[i].tid, es[i].jid, es[i].jv⟩) σ.length := fun ho => by
        rcases hkk.new _ ho with h' | h'
        · have := h.lt _ h'; omega
        · rcases hfk.new _ ho with h' | h'
          · have := h.lt _ h'; omega
          · simp at h'; omega
      obtain ⟨w0, w1⟩ := hz1f σF fun id hid hno => hfk.same id hid hno
      have hi' : i < (ring.set i (lessJ ring[i] k)).length := by simpa using hi
      have hgj : (ring.set i (lessJ ring[i] k))[i].jobs = [] := by simp only [List.getElem_set_self]; exact hem
      have hgone := hfin.gone hi' hgj
      have hgk := hkk.trans (QAt.goneK (σ := σF) (q := q) (rid := rid) (es := es.set i ⟨es[i].tid, es[i].jid, es[i].jv⟩) (i := i) (x := (rv, some (.cells ((rgC (es.set i ⟨es[i].tid, es[i].jid, es[i].jv⟩)).take (i * 1) ++ (rgC (es.set i ⟨es[i].tid, es[i].jid, es[i].jv⟩)).drop ((i + 1) * 1)) ⟨false, none⟩))) (y := (0, some (.cells [.int .i64 quan, .ms rid rv 0 ((ring.set i (lessJ ring[i] k)).length - 1) 1 false, .int .i64 (manyQ (ring.set i (lessJ ring[i] k)) : Nat)] ⟨false, some 56⟩))))
      have hDT := DeleteT_ok σF rid rv (ring.set i (lessJ ring[i] k)).length i (rgC (es.set i ⟨es[i].tid, es[i].jid, es[i].jv⟩)) false none hfin.rb (by simp [rgC, hlen]) hi' (by simpa using (show ring.length ≤ 1000000000 by omega))
      have hiw : IntKind.i64.wrap ((i : Int) + 1) = ((i + 1 : Nat) : Int) := w64 (by omega) (by omega)
      rw [← hiw] at hDT
      obtain ⟨R2, hR2⟩ : ∃ R2 : Nat × Option Box, R2 = (rv, some (.cells ((rgC (es.set i ⟨es[i].tid, es[i].jid, es[i].jv⟩)).take (i * 1) ++ (rgC (es.set i ⟨es[i].tid, es[i].jid, es[i].jv⟩)).drop ((i + 1) * 1)) ⟨false, none⟩)) := ⟨_, rfl⟩
      obtain ⟨Q3, hQ3⟩ : ∃ Q3 : Nat × Option Box, Q3 = (0, some (.cells [.int .i64 quan, .ms rid rv 0 ((ring.set i (lessJ ring[i] k)).length - 1) 1 false, .int .i64 (manyQ (ring.set i (lessJ ring[i] k)) : Nat)] ⟨false, some 56⟩)) := ⟨_, rfl⟩
      rw [← hR2] at hDT hgone hgk
      rw [← hQ3] at hgone hgk
      have hqb := hfin.qb
      generalize hrn : ring.set i (lessJ ring[i] k) = ring' at *
      have hn0q : σ.length ≠ q := by omega
      have hn0r : σ.length ≠ rid := by omega
      have hn1q : σ.length + 1 ≠ q := by omega
      have hn1r : σ.length + 1 ≠ rid := by omega
      refine pao [.b true, .v (.ms rid rv 0 ring'.length 1 false), .f (.ms rid rv 0 (ring'.length - 1) 1 false) (fun s => s.set rid R2), .f (.tup []) (fun s => s.set q Q3), .v (jobA ring[i].jobs[k]), .f (.tup []) (fun s => s.set σ.length z1)] rfl ?_ ?_
      · (repeat' with_reducible apply AllP_cons) <;> try exact aC
        · exact OpSpec.loadP rfl rfl rfl rfl hqb rfl
        · refine OpSpec.storeP (id := q) (gT := some 56) (cs := [.int .i64 quan, .ms rid rv 0 ring'.length 1 false, .int .i64 (manyQ ring' : Nat)]) rfl rfl rfl rfl rfl rfl ?_ (lble rfl) ?_
          · show ((_ : Heap).set _ _)[q]? = _
            rw [set_ne hqr]; exact hqb
          · rw [hQ3]; rfl
        · refine OpSpec.loadPA (id := σ.length + 1) (cs := (ring[i].jobs[k]).cells) (g := ⟨false, some 34⟩) rfl rfl rfl rfl ?_ (lble rfl) rfl
          show (((_ : Heap).set _ _).set _ _)[σ.length + 1]? = _
          rw [set_ne hn1q, set_ne hn1r, w1, hz1]
        · refine OpSpec.storeP (id := σ.length) (gT := some 34) (cs := [.int .i64 0, .str [], .int .i64 0]) (y := jobA ring[i].jobs[k]) rfl rfl rfl rfl rfl rfl ?_ (lble rfl) ?_
          · show (((_ : Heap).set _ _).set _ _)[σ.length]? = _
            rw [set_ne hn0q, set_ne hn0r, w0, hz0]
          · rw [hz1]; rfl
      have hw : ((σF.set rid R2).set q Q3)[σ.length]? = some z0 := by rw [set_ne hn0q, set_ne hn0r, w0]
      refine S_ret (ret_c1 (id := σ.length) (off := 0) (cur := 0) (cs := (ring[i].jobs[k]).cells) (g := ⟨false, some 34⟩) rfl rfl ?_ rfl ⟨rfl, (es.set i ⟨es[i].tid, es[i].jid, es[i].jv⟩).eraseIdx i, ?_, ?_⟩)
      · show ((_ : Heap).set _ _)[σ.length]? = _
        rw [set_eq hw, hz1]
      · have ht : takR ring i k = ring'.eraseIdx i := by
          unfold takR
          rw [hgz]
          simp only [hem, if_true]
          rw [← hrn, List.eraseIdx_set_eq]
        rw [ht]
        refine hgone.keep (Alive.set' hgone.al (by rw [hz1]; exact ⟨_, rfl⟩) _) fun id ho => ?_
        have : id ≠ σ.length := fun e => by
          subst e
          rcases ho with h' | h' | ⟨e, he, h'⟩
          · exact hn0 (.inl h')
          · exact hn0 (.inr (.inl h'))
          · exact hn0 (.inr (.inr ⟨e, List.mem_of_mem_eraseIdx he, h'⟩))
        exact set_ne this
      · exact hgk.set (Nat.le_refl _) _
    · have hl0 : ring[i].jobs.length - 1 ≠ 0 := fun e => hem (List.eq_nil_of_length_eq_zero (by rw [← hll] at e; exact e))
      have c5 : (((ring[i].jobs.length - 1 : Nat) : Int) == 0) = false := by
        have : ((ring[i].jobs.length - 1 : Nat) : Int) ≠ 0 := by omega
        simpa using this
      obtain ⟨σF, hσF⟩ : ∃ σF, σF = ((((σ ++ [z0]) ++ [z1]).set es[i].jid J2).set es[i].tid T2).set q Q2 := ⟨_, rfl⟩
      rw [← hσF] at hfin hfk hkk
      refine S_heap σF hσF.symm ?_
      have hn0 : ¬ Own q rid (es.set i ⟨es[i].tid, es[i].jid, es[i].jv⟩) σ.length := fun ho => by
        rcases hfk.new _ ho with h' | h'
        · have := h.lt _ h'; omega
        · simp at h'; omega
      obtain ⟨w0, w1⟩ := hz1f σF fun id hid hno => hfk.same id hid hno
      refine pao [.b false, .v (jobA ring[i].jobs[k]), .f (.tup []) (fun s => s.set σ.length z1)] rfl ?_ ?_
      · (repeat' with_reducible apply AllP_cons) <;> try exact aC
        · refine OpSpec.loadPA (id := σ.length + 1) (cs := (ring[i].jobs[k]).cells) (g := ⟨false, some 34⟩) rfl rfl rfl rfl ?_ (lble rfl) rfl
          rw [w1, hz1]
        · refine OpSpec.storeP (id := σ.length) (gT := some 34) (cs := [.int .i64 0, .str [], .int .i64 0]) (y := jobA ring[i].jobs[k]) rfl rfl rfl rfl rfl rfl ?_ (lble rfl) ?_
          · rw [w0, hz0]
          · rw [hz1]; rfl
      refine S_ret (ret_c1 (id := σ.length) (off := 0) (cur := 0) (cs := (ring[i].jobs[k]).cells) (g := ⟨false, some 34⟩) rfl rfl ?_ rfl ⟨rfl, es.set i ⟨es[i].tid, es[i].jid, es[i].jv⟩, ?_, ?_⟩)
      · show ((_ : Heap).set _ _)[σ.length]? = _
        rw [set_eq w0, hz1]
      · have ht : takR ring i k = ring.set i (lessJ ring[i] k) := by
          unfold takR
          rw [hgz]
          simp only [if_neg hem]
        rw [ht]
        refine hfin.keep (Alive.set' hfin.al (by rw [hz1]; exact ⟨_, rfl⟩) _) fun id ho => ?_
        exact set_ne fun e => hn0 (e ▸ ho)
      · exact hkk.set (Nat.le_refl _) _
end Go.Proofs.Ytjaflkgfipaajaa
end
section
set_option linter.unusedVariables false
set_option linter.unusedSimpArgs false
set_option maxRecDepth 20000
set_option maxHeartbeats 2000000
namespace Go.Proofs.Ytjaflkgfipaajaa
open Go Go.Ab
def nxtF : Nat → Int → List QT → Option QJ × List QT
  | 0, _, ring => (none, ring)
  | _ + 1, _, [] => (none, [])
  | f + 1, quan, t :: r => match t.jobs with
    | [] => (none, t :: r)
    | j :: _ => if j.cost ≤ (if t.turn = true then t.cred else t.cred + quan) then (some j, takR (⟨t.num, (if t.turn = true then t.cred else t.cred + quan) - j.cost, true, t.jobs⟩ :: r) 0 0)
      else nxtF f quan (r ++ [⟨t.num, (if t.turn = true then t.cred else t.cred + quan), false, t.jobs⟩])
def costQ (t : QT) : Int := match t.jobs with | [] => 0 | j :: _ => j.cost
def farQ : List QT → Nat
  | [] => 0
  | t :: r => (costQ t - t.cred).toNat + farQ r
def mQ (ring : List QT) : Nat := 2 * farQ ring + match ring with | [] => 0 | t :: _ => if t.turn = true then 1 else 0
structure QOk (quan : Int) (ring : List QT) : Prop where
  q1 : 1 ≤ quan ∧ quan ≤ 1000
  ne : ∀ t ∈ ring, t.jobs ≠ []
  cr : ∀ t ∈ ring, 0 ≤ t.cred ∧ t.cred ≤ 1999 ∧ (t.turn = false → t.cred ≤ 999)
  co : ∀ t ∈ ring, ∀ j ∈ t.jobs, 1 ≤ j.cost ∧ j.cost ≤ 1000
  tl : ∀ t ∈ ring.tail, t.turn = false
  mn : manyQ ring ≤ 200
theorem QOk.len {quan : Int} {ring : List QT} (h : QOk quan ring) : ring.length ≤ 200 := by
  have : ∀ l : List QT, (∀ t ∈ l, t.jobs ≠ []) → l.length ≤ manyQ l := by
    intro l
    induction l with
    | nil => intro _; exact Nat.le_refl _
    | cons x r ih =>
      intro hl
      have h1 := ih fun t ht => hl t (List.mem_cons_of_mem _ ht)
      have h2 := List.length_pos_iff.2 (hl x (List.mem_cons_self ..))
      rw [List.length_cons, manyQ]; omega
  have := this ring h.ne
  have := h.mn
  omega
theorem far_app (a b : List QT) : farQ (a ++ b) = farQ a + farQ b := by
  induction a with
  | nil => simp [farQ]
  | cons x r ih => rw [List.cons_append, farQ, farQ, ih]; omega
def turned (quan : Int) (t : QT) : QT := ⟨t.num, if t.turn = true then t.cred else t.cred + quan, true, t.jobs⟩
def rested (quan : Int) (t : QT) : QT := ⟨t.num, if t.turn = true then t.cred else t.cred + quan, false, t.jobs⟩
theorem QOk.rot {quan : Int} {t : QT} {r : List QT} {j : QJ} {js : List QJ} (h : QOk quan (t :: r)) (hj : t.jobs = j :: js) (hc : ¬ j.cost ≤ (if t.turn = true then t.cred else t.cred + quan)) : QOk quan (r ++ [rested quan t]) ∧ mQ (r ++ [rested quan t]) < mQ (t :: r) := by
  obtain ⟨c1, c2, c3⟩ := h.cr t (List.mem_cons_self ..)
  obtain ⟨d1, d2⟩ := h.co t (List.mem_cons_self ..) j (by rw [hj]; exact List.mem_cons_self ..)
  have hq := h.q1
  have htl : ∀ x ∈ r, x.turn = false := fun x hx => h.tl x hx
  refine ⟨⟨h.q1, fun x hx => ?_, fun x hx => ?_, fun x hx => ?_, fun x hx => ?_, ?_⟩, ?_⟩
  · rcases List.mem_append.1 hx with hx | hx
    · exact h.ne x (List.mem_cons_of_mem _ hx)
    · rw [List.mem_singleton.1 hx]; exact h.ne t (List.mem_cons_self ..)
  · rcases List.mem_append.1 hx with hx | hx
    · exact h.cr x (List.mem_cons_of_mem _ hx)
    · rw [List.mem_singleton.1 hx]
      show 0 ≤ (if t.turn = true then t.cred else t.cred + quan) ∧ (if t.turn = true then t.cred else t.cred + quan) ≤ 1999 ∧ (_ → (if t.turn = true then t.cred else t.cred + quan) ≤ 999)
      split at hc <;> rename_i ht
      · simp only [if_pos ht]; omega
      · simp only [if_neg ht]; omega
  · rcases List.mem_append.1 hx with hx | hx
    · exact h.co x (List.mem_cons_of_mem _ hx)
    · rw [List.mem_singleton.1 hx]; exact h.co t (List.mem_cons_self ..)
  · have hx := List.mem_of_mem_tail hx
    rcases List.mem_append.1 hx with hx | hx
    · exact htl x hx
    · rw [List.mem_singleton.1 hx]; rfl
  · have := h.mn
    rw [many_app]
    rw [manyQ] at this
    show manyQ r + (t.jobs.length + 0) ≤ 200
    omega
  · have hco : costQ t = j.cost := by unfold costQ; rw [hj]
    have hco2 : costQ (rested quan t) = j.cost := by unfold costQ rested; rw [hj]
    have hht : (match r ++ [rested quan t] with | [] => 0 | x :: _ => if x.turn = true then 1 else 0) = 0 := by
      cases r with
      | nil => rfl
      | cons x r' => show (if x.turn = true then 1 else 0) = 0; rw [htl x (List.mem_cons_self ..)]; rfl
    unfold mQ
    rw [hht, far_app, farQ, farQ, farQ, hco, hco2]
    show 2 * (farQ r + ((j.cost - (if t.turn = true then t.cred else t.cred + quan)).toNat + 0)) + 0 < 2 * ((j.cost - t.cred).toNat + farQ r) + if t.turn = true then 1 else 0
    split at hc <;> rename_i ht
    · simp only [if_pos ht]; omega
    · simp only [if_neg ht]; omega
def nxtQ (quan : Int) (ring : List QT) : Option QJ × List QT := nxtF (mQ ring + 1) quan ring
theorem QAt.cred {σ : Heap} {q rid rv : Nat} {es : List QL} {quan : Int} {ring : List QT} (h : QAt σ q rid rv es quan ring) {i : Nat} (hi : i < es.length) (hi2 : i < ring.length) (t' : QT) (hj : t'.jobs = ring[i].jobs) :
    QAt (σ.set es[i].tid (0, some (tnB t' es[i]))) q rid rv es quan (ring.set i t') := by
  obtain ⟨a1, a2, a3, a4, a5⟩ := h.ap.one hi
  obtain ⟨k1, k2⟩ := h.tn.get i hi hi2
  have hm := many_set (t := t') hi2
  rw [hj] at hm
  refine ⟨Alive.set h.al _ _ _, ?_, ?_, ?_, h.ap⟩
  · rw [set_ne (Ne.symm a1), h.qb]
    unfold quB
    rw [List.length_set, show manyQ (ring.set i t') = manyQ ring by omega]
  · rw [set_ne (Ne.symm a3)]; exact h.rb
  · have hself : es.set i es[i] = es := List.set_getElem_self hi
    have := h.tn.put (σ' := σ.set es[i].tid (0, some (tnB t' es[i]))) i hi es[i] t' (set_eq k1) (by rw [set_ne (Ne.symm a5), hj]; exact k2) (fun j hj hne => by
      obtain ⟨c1, c2, c3, c4⟩ := h.ap.two hj hi hne
      exact ⟨set_ne c1, set_ne c4⟩)
    rw [hself] at this
    exact this
theorem QAt.credK {σ : Heap} {q rid : Nat} {es : List QL} {i : Nat} (hi : i < es.length) {x : Nat × Option Box} : QKeep σ (σ.set es[i].tid x) (Own q rid es) (Own q rid es) :=
  ⟨by simp, fun id hid hno => set_ne fun e => hno (.inr (.inr ⟨_, List.getElem_mem hi, .inl e⟩)), fun id h => .inl h⟩
theorem QAt.rot {σ : Heap} {q rid rv : Nat} {e : QL} {es : List QL} {quan : Int} {t : QT} {r : List QT} (h : QAt σ q rid rv (e :: es) quan (t :: r)) :
    QAt ((σ.set rid (rv + 1, some (.cells ((rgC (e :: es)).drop 1 ++ [AV.ptr e.tid 0 0]) ⟨false, none⟩))).set q (0, some (quB quan rid (rv + 1) (t :: r)))) q rid (rv + 1) (es ++ [e]) quan (r ++ [t]) := by
  have hqr := h.ap.qr
  refine ⟨Alive.set (Alive.set h.al _ _ _) _ _ _, ?_, ?_, ?_, h.ap.rot⟩
  · have h1 : (σ.set rid (rv + 1, some (.cells ((rgC (e :: es)).drop 1 ++ [AV.ptr e.tid 0 0]) ⟨false, none⟩)))[q]? = some (0, some (quB quan rid rv (t :: r))) := by rw [set_ne hqr]; exact h.qb
    rw [set_eq h1]
    unfold quB
    rw [many_app, manyQ, manyQ, manyQ, List.length_append, List.length_cons]
    rw [show manyQ r + (t.jobs.length + 0) = t.jobs.length + manyQ r by omega]
    rfl
  · rw [set_ne (Ne.symm hqr), set_eq h.rb]
    unfold rgC
    rw [List.map_append]; rfl
  · cases h.tn with
    | cons h1 h2 h3 =>
      refine (h3.snoc h1 h2).keep fun x hx => ?_
      have hxm : x ∈ e :: es := by
        rcases List.mem_append.1 hx with hx | hx
        · exact List.mem_cons_of_mem _ hx
        · rw [List.mem_singleton.1 hx]; exact List.mem_cons_self ..
      obtain ⟨a1, a2, a3, a4, a5⟩ := h.ap.at_ x.ids (List.mem_map_of_mem hxm)
      exact ⟨by rw [set_ne (show x.tid ≠ q from a1), set_ne (show x.tid ≠ rid from a3)], by rw [set_ne (show x.jid ≠ q from a2), set_ne (show x.jid ≠ rid from a4)]⟩
theorem QAt.rotK {σ : Heap} {q rid : Nat} {e : QL} {es : List QL} {x y : Nat × Option Box} : QKeep σ ((σ.set rid x).set q y) (Own q rid (e :: es)) (Own q rid (es ++ [e])) := by
  refine ⟨by simp, fun id hid hno => ?_, fun id hid => .inl ?_⟩
  · rw [set_ne (fun e => hno (.inl e)), set_ne (fun e => hno (.inr (.inl e)))]
  · rcases hid with h1 | h1 | ⟨z, hz, h1⟩
    · exact .inl h1
    · exact .inr (.inl h1)
    · refine .inr (.inr ⟨z, ?_, h1⟩)
      rcases List.mem_append.1 hz with hz | hz
      · exact List.mem_cons_of_mem _ hz
      · rw [List.mem_singleton.1 hz]; exact List.mem_cons_self ..
end Go.Proofs.Ytjaflkgfipaajaa
end
section
set_option linter.unusedVariables false
set_option linter.unusedSimpArgs false
set_option maxRecDepth 20000
set_option maxHeartbeats 2000000
namespace Go.Proofs.Ytjaflkgfipaajaa
open Go Go.Ab
def job0 : QJ := ⟨0, [], 0⟩
def nxA (p : Option QJ × List QT) : AV := match p.1 with | some j => .tup [jobA j, .bool true] | none => .tup [jobA job0, .bool false]
theorem Next_ok (σ : Heap) (q rid rv : Nat) (es : List QL) (quan : Int) (ring : List QT) (h : QAt σ q rid rv es quan ring) (hok : QOk quan ring) :
    CallOk cx 12 [.ptr q 0 0] σ (fun o s => o = .ret (nxA (nxtQ quan ring)) ∧ ∃ rv' es', QAt s q rid rv' es' quan (nxtQ quan ring).2 ∧ QKeep σ s (Own q rid es) (Own q rid es')) :=
  callOk_intro (fun a w => Try.call12 a w) Try.func12 rfl Try.ntmps12 rfl fun B => by
    obtain ⟨z0, hz0⟩ : ∃ z0 : Nat × Option Box, z0 = (0, some (.cells [.int .i64 0, .str [], .int .i64 0] ⟨false, some 34⟩)) := ⟨_, rfl⟩
    have h1 : QAt (σ ++ [z0]) q rid rv es quan ring := by rw [hz0]; exact h.app _ _
    refine pao [.f (.ptr σ.length 0 0) (fun s => s ++ [z0])] rfl ?_ ?_
    · (repeat' with_reducible apply AllP_cons) <;> try exact aC
      · rw [hz0]; exact OpSpec.allocE rfl rfl rfl rfl h.al
    have hq0 := lt_of_get h.qb
    have hr0 := lt_of_get h.rb
    have hqr := h.ap.qr
    refine S_while (α := Heap × Nat × List QL × List QT) (fun _ => [(0, .ptr q 0 0), (2, .ptr σ.length 0 0)]) (fun s => s.1)
      (fun s => QAt s.1 q rid s.2.1 s.2.2.1 quan s.2.2.2 ∧ QKeep σ s.1 (Own q rid es) (Own q rid s.2.2.1) ∧ s.1[σ.length]? = some z0 ∧ ¬ Own q rid s.2.2.1 σ.length ∧ QOk quan s.2.2.2 ∧ ∃ f, mQ s.2.2.2 < f ∧ nxtF f quan s.2.2.2 = nxtQ quan ring) (fun s => mQ s.2.2.2) (σ ++ [z0], rv, es, ring)
      ⟨h1, QKeep.app, app_last, (fun ho => by have := h.lt _ ho; omega), hok, mQ ring + 1, Nat.lt_succ_self _, rfl⟩ (.cons rfl (.cons rfl (.nil _))) rfl ?_
    rintro ⟨σ2, rv2, es2, ring2⟩ ⟨h2, hk2, hz2, hn2, hok2, f, hf, hnf⟩
    simp only at h2 hk2 hz2 hn2 hok2 hf hnf
    obtain ⟨f, rfl⟩ : ∃ g, f = g + 1 := ⟨f - 1, by omega⟩
    cases ring2 with
    | nil =>
      have c1 : decide ((((([] : List QT).length) : Nat) : Int) > 0) = false := rfl
      refine pao [.v (.ms rid rv2 0 ([] : List QT).length 1 false), .b false, .f (.tup []) (fun s => s.set σ.length z0)] rfl ?_ ?_
      · (repeat' with_reducible apply AllP_cons) <;> try exact aC
        · exact OpSpec.loadP rfl rfl rfl rfl h2.qb rfl
        · refine OpSpec.storeP (id := σ.length) (gT := some 34) (cs := [.int .i64 0, .str [], .int .i64 0]) (y := .agg [.int .i64 0, .str [], .int .i64 0]) rfl rfl rfl rfl rfl rfl ?_ (lble rfl) ?_
          · rw [hz2, hz0]
          · rw [hz0]; rfl
      have hnx : nxtQ quan ring = (none, []) := by rw [← hnf]; rfl
      rw [hnx]
      refine S_ret (ret_c2 (id := σ.length) (off := 0) (cur := 0) (cs := [.int .i64 0, .str [], .int .i64 0]) (g := ⟨false, some 34⟩) rfl rfl ?_ rfl rfl ⟨rfl, rv2, es2, ?_, ?_⟩)
      · show ((_ : Heap).set _ _)[σ.length]? = _
        rw [set_eq hz2, hz0]
      · exact h2.keep (Alive.set' h2.al (by rw [hz0]; exact ⟨_, rfl⟩) _) fun id ho => set_ne fun e => hn2 (e ▸ ho)
      · exact hk2.set (Nat.le_refl _) _
    | cons t r =>
      have hlen2 := h2.tn.len
      cases es2 with
      | nil => cases hlen2
      | cons e es3 =>
      have hi0 : 0 < (e :: es3).length := Nat.zero_lt_succ _
      have hi1 : 0 < (t :: r).length := Nat.zero_lt_succ _
      obtain ⟨k1, k2⟩ := h2.tn.get 0 hi0 hi1
      have k1 : σ2[e.tid]? = some (0, some (tnB t e)) := k1
      have k2 : σ2[e.jid]? = some (e.jv, some (.cells (jbC t.jobs) ⟨false, none⟩)) := k2
      obtain ⟨a1, a2, a3, a4, a5⟩ := h2.ap.one hi0
      have a1 : e.tid ≠ q := a1
      have a2 : e.jid ≠ q := a2
      have a3 : e.tid ≠ rid := a3
      have a4 : e.jid ≠ rid := a4
      have a5 : e.tid ≠ e.jid := a5
      have hzt : σ.length ≠ e.tid := fun h' => hn2 (.inr (.inr ⟨e, List.mem_cons_self .., .inl h'⟩))
      have c1 : decide ((((t :: r).length : Nat) : Int) > 0) = true := decide_eq_true (by rw [List.length_cons]; omega)
      have hrx : ((rgC (e :: es3)).drop (offN 0 (mulN ((0 : Int)).toNat 1)))[0]? = some (.ptr e.tid 0 0) := rfl
      obtain ⟨cr1, cr2, cr3⟩ := hok2.cr t (List.mem_cons_self ..)
      have hq1 := hok2.q1
      obtain ⟨j, js, hj⟩ : ∃ j js, t.jobs = j :: js := by
        cases hh : t.jobs with
        | nil => exact absurd hh (hok2.ne t (List.mem_cons_self ..))
        | cons j js => exact ⟨j, js, rfl⟩
      obtain ⟨co1, co2⟩ := hok2.co t (List.mem_cons_self ..) j (by rw [hj]; exact List.mem_cons_self ..)
      have hok3 : ∀ hx : t.turn = false, IntKind.i64.wrap (t.cred + quan) = t.cred + quan := fun hx => by
        have := cr3 hx
        rw [show t.cred + quan = (((t.cred + quan).toNat : Nat) : Int) by omega]
        exact w64 rfl (by omega)
      have hq2 := h2.qb
      refine' S_shareO (ι := Heap) (fun _ => [(0, .ptr q 0 0), (2, .ptr σ.length 0 0), (4, .ptr e.tid 0 0)]) (fun s => s)
        (fun s => QAt s q rid rv2 (e :: es3) quan (turned quan t :: r) ∧ QKeep σ s (Own q rid es) (Own q rid (e :: es3)) ∧ s[σ.length]? = some z0) ?main ?rest
      case main =>
        intro hsh
        cases ht : t.turn with
        | true =>
          have htt : turned quan t = t := by
            unfold turned
            rw [if_pos ht]
            cases t
            simp only at ht
            rw [ht]
          have tb : t.turn = true := ht
          have k1' : σ2[e.tid]? = some (0, some (.cells [.int .i64 t.num, .int .i64 t.cred, .bool true, .ms e.jid e.jv 0 t.jobs.length 3 false] ⟨false, some 63⟩)) := by rw [k1]; unfold tnB; rw [ht]
          refine pao [.v (.ms rid rv2 0 (t :: r).length 1 false), .b true, .v (.ms rid rv2 0 (t :: r).length 1 false), .v .top, .v (.ptr e.tid 0 0), .v (.bool true), .b false, .s] rfl ?_ ?_
          · (repeat' with_reducible apply AllP_cons) <;> try exact aC
            · exact OpSpec.loadP rfl rfl rfl rfl hq2 rfl
            · exact OpSpec.loadP rfl rfl rfl rfl hq2 rfl
            · exact OpSpec.loadE rfl rfl rfl rfl h2.rb hrx
            · exact OpSpec.loadP rfl rfl rfl rfl k1' rfl
          refine hsh σ2 _ ⟨by rw [htt]; exact h2, hk2, hz2⟩ (.cons rfl (.cons rfl (.cons rfl (.nil _))))
        | false =>
          have hw := hok3 ht
          have htt : turned quan t = ⟨t.num, t.cred + quan, true, t.jobs⟩ := by unfold turned; rw [if_neg (by rw [ht]; simp)]
          have k1' : σ2[e.tid]? = some (0, some (.cells [.int .i64 t.num, .int .i64 t.cred, .bool false, .ms e.jid e.jv 0 t.jobs.length 3 false] ⟨false, some 63⟩)) := by rw [k1]; unfold tnB; rw [ht]
          obtain ⟨T1, hT1⟩ : ∃ T1 : Nat × Option Box, T1 = (0, some (tnB ⟨t.num, t.cred, true, t.jobs⟩ e)) := ⟨_, rfl⟩
          obtain ⟨T2, hT2⟩ : ∃ T2 : Nat × Option Box, T2 = (0, some (tnB ⟨t.num, t.cred + quan, true, t.jobs⟩ e)) := ⟨_, rfl⟩
          have h4 := h2.cred hi0 hi1 ⟨t.num, t.cred, true, t.jobs⟩ rfl
          have h4 : QAt (σ2.set e.tid T1) q rid rv2 (e :: es3) quan (⟨t.num, t.cred, true, t.jobs⟩ :: r) := by rw [hT1]; exact h4
          have h5 := h4.cred hi0 (Nat.zero_lt_succ _) ⟨t.num, t.cred + quan, true, t.jobs⟩ rfl
          have h5 : QAt ((σ2.set e.tid T1).set e.tid T2) q rid rv2 (e :: es3) quan (⟨t.num, t.cred + quan, true, t.jobs⟩ :: r) := by rw [hT2]; exact h5
          have hkk : QKeep σ ((σ2.set e.tid T1).set e.tid T2) (Own q rid es) (Own q rid (e :: es3)) := (hk2.trans (QAt.credK hi0)).trans (QAt.credK hi0)
          have hqs : (σ2.set e.tid T1)[q]? = some (0, some (quB quan rid rv2 (t :: r))) := by rw [set_ne (Ne.symm a1)]; exact hq2
          have ht1 : (σ2.set e.tid T1)[e.tid]? = some (0, some (.cells [.int .i64 t.num, .int .i64 t.cred, .bool true, .ms e.jid e.jv 0 t.jobs.length 3 false] ⟨false, some 63⟩)) := by rw [set_eq k1, hT1]; rfl
          have hzz : ((σ2.set e.tid T1).set e.tid T2)[σ.length]? = some z0 := by rw [set_ne hzt, set_ne hzt]; exact hz2
          refine pao [.v (.ms rid rv2 0 (t :: r).length 1 false), .b true, .v (.ms rid rv2 0 (t :: r).length 1 false), .v .top, .v (.ptr e.tid 0 0), .v (.bool false), .b true, .f (.tup []) (fun s => s.set e.tid T1)] rfl ?_ ?_
          · (repeat' with_reducible apply AllP_cons) <;> try exact aC
            · exact OpSpec.loadP rfl rfl rfl rfl hq2 rfl
            · exact OpSpec.loadP rfl rfl rfl rfl hq2 rfl
            · exact OpSpec.loadE rfl rfl rfl rfl h2.rb hrx
            · exact OpSpec.loadP rfl rfl rfl rfl k1' rfl
            · exact OpSpec.storeP (y := .bool true) rfl rfl rfl rfl rfl rfl k1' (lble rfl) (by rw [hT1]; rfl)
          refine S_heap (σ2.set e.tid T1) rfl ?_
          generalize σ2.set e.tid T1 = σ5 at *
          refine S_drawY σ5 σ5 1 2 3 9 [.ptr e.tid 0 0, .ptr e.tid 0 0, .ptr e.tid 0 1, .int .i64 t.cred, .ptr q 0 0, .ptr q 0 0, .ptr q 0 0, .int .i64 quan, .int .i64 (t.cred + quan)] rfl rfl rfl rfl rfl rfl rfl rfl rfl ?_ ?_
          · refine ⟨pureY rfl rfl (fun s => rfl) trivial, opC_step rfl rfl rfl trivial, pureY rfl rfl (fun s => rfl) trivial, specC_step rfl rfl (OpSpec.loadP rfl rfl rfl rfl ht1 rfl), pureY rfl rfl (fun s => rfl) trivial, pureY rfl rfl (fun s => rfl) trivial, pureY rfl rfl (fun s => rfl) trivial, ?_, ?_, trivial⟩
            · exact specY rfl rfl fun s hs => by
                have e : s = σ5 := by rcases hs with e | e | e <;> exact e
                rw [e]
                exact OpSpec.loadP rfl rfl rfl rfl hqs rfl
            · refine pureY rfl rfl (C := []) (fun s => ?_) trivial
              show some ([], AV.int .i64 (IntKind.i64.wrap (t.cred + quan)), s) = _
              rw [hw]
          refine pao [.f (.tup []) (fun s => s.set e.tid T2), .s] rfl ?_ ?_
          · (repeat' with_reducible apply AllP_cons) <;> try exact aC
            · exact OpSpec.storeP (y := .int .i64 (t.cred + quan)) rfl rfl rfl rfl rfl rfl ht1 (lble rfl) (by rw [hT2]; rfl)
          exact hsh (σ5.set e.tid T2) _ ⟨by rw [htt]; exact h5, hkk, hzz⟩ (.cons rfl (.cons rfl (.cons rfl (.nil _))))
      case rest =>
        rintro σ3 ⟨h3, hk3, hz3⟩
        obtain ⟨c, hc⟩ : ∃ c, c = if t.turn = true then t.cred else t.cred + quan := ⟨_, rfl⟩
        have hcb : 0 ≤ c ∧ c ≤ 1999 := by
          rw [hc]
          split
          · exact ⟨cr1, cr2⟩
          · rename_i hx
            have := cr3 (by simpa using hx)
            omega
        have htu : turned quan t = ⟨t.num, c, true, t.jobs⟩ := by unfold turned; rw [← hc]
        have hre : rested quan t = ⟨t.num, c, false, t.jobs⟩ := by unfold rested; rw [← hc]
        rw [htu] at h3
        have hlen3 := h3.tn.len
        obtain ⟨k3, k4⟩ := h3.tn.get 0 hi0 (Nat.zero_lt_succ _)
        have k3 : σ3[e.tid]? = some (0, some (.cells [.int .i64 t.num, .int .i64 c, .bool true, .ms e.jid e.jv 0 t.jobs.length 3 false] ⟨false, some 63⟩)) := k3
        have k4 : σ3[e.jid]? = some (e.jv, some (.cells (jbC t.jobs) ⟨false, none⟩)) := k4
        have hjl : 0 < t.jobs.length := by rw [hj]; exact Nat.zero_lt_succ _
        have hcx : decide ((0 : Int) < (t.jobs.length : Int)) = true := decide_eq_true (by omega)
        have hcost : ((jbC t.jobs).drop (offN 0 (mulN ((0 : Int)).toNat 3) + 2))[0]? = some (.int .i64 j.cost) := by rw [hj]; rfl
        have hmn := hok2.mn
        have hrl := hok2.len
        by_cases hcc : j.cost ≤ c
        · have d1 : decide (j.cost ≤ c) = true := decide_eq_true hcc
          have hw : IntKind.i64.wrap (c - j.cost) = c - j.cost := by
            rw [show c - j.cost = (((c - j.cost).toNat : Nat) : Int) by omega]
            exact w64 rfl (by omega)
          obtain ⟨T3, hT3⟩ : ∃ T3 : Nat × Option Box, T3 = (0, some (tnB ⟨t.num, c - j.cost, true, t.jobs⟩ e)) := ⟨_, rfl⟩
          have h4 := h3.cred hi0 (Nat.zero_lt_succ _) ⟨t.num, c - j.cost, true, t.jobs⟩ rfl
          have h4 : QAt (σ3.set e.tid T3) q rid rv2 (e :: es3) quan (⟨t.num, c - j.cost, true, t.jobs⟩ :: r) := by rw [hT3]; exact h4
          have hk4 : QKeep σ (σ3.set e.tid T3) (Own q rid es) (Own q rid (e :: es3)) := hk3.trans (QAt.credK hi0)
          have hz4 : (σ3.set e.tid T3)[σ.length]? = some z0 := by rw [set_ne hzt]; exact hz3
          refine pao [.v (.ms e.jid e.jv 0 t.jobs.length 3 false), .v .top, .v (.int .i64 j.cost), .v (.int .i64 c), .b true, .v (.int .i64 c), .f (.tup []) (fun s => s.set e.tid T3)] rfl ?_ ?_
          · (repeat' with_reducible apply AllP_cons) <;> try exact aC
            · exact OpSpec.loadP rfl rfl rfl rfl k3 rfl
            · exact OpSpec.loadE rfl rfl rfl rfl k4 hcost
            · exact OpSpec.loadP rfl rfl rfl rfl k3 rfl
            · exact OpSpec.loadP rfl rfl rfl rfl k3 rfl
            · refine OpSpec.storeP (y := .int .i64 (c - j.cost)) rfl rfl rfl ?_ rfl rfl k3 (lble rfl) (by rw [hT3]; rfl)
              show AV.int .i64 (IntKind.i64.wrap (c - j.cost)) = _
              rw [hw]
          have hmq : manyQ (⟨t.num, c - j.cost, true, t.jobs⟩ :: r) ≤ 200 := hmn
          have htk := take_ok (σ3.set e.tid T3) q rid rv2 (e :: es3) quan (⟨t.num, c - j.cost, true, t.jobs⟩ :: r) 0 0 h4 hmq hrl (Nat.zero_lt_succ _) hjl
          refine S_call rfl rfl rfl htk (fun v' σ' hv => ?_) (fun v' σ' hv => ?_)
          case _ =>
            obtain ⟨e1, es4, h5, hk5⟩ := hv
            cases e1
            have hjj : (t.jobs)[0] = j := by simp only [hj, List.getElem_cons_zero]
            have hkk := hk4.trans hk5
            have hn4 : ¬ Own q rid (e :: es3) σ.length := fun ho => hn2 ho
            have hlt4 : σ.length < (σ3.set e.tid T3).length := lt_of_get hz4
            have hz5 : σ'[σ.length]? = some z0 := by rw [hk5.same _ hlt4 hn4]; exact hz4
            have hn5 : ¬ Own q rid es4 σ.length := fun ho => by
              rcases hk5.new _ ho with h' | h'
              · exact hn4 h'
              · omega
            obtain ⟨zj, hzj⟩ : ∃ zj : Nat × Option Box, zj = (0, some (.cells j.cells ⟨false, some 34⟩)) := ⟨_, rfl⟩
            have hnx : nxtQ quan ring = (some j, takR (⟨t.num, c - j.cost, true, t.jobs⟩ :: r) 0 0) := by
              rw [← hnf, nxtF]
              simp only [hj]
              rw [← hc, if_pos hcc]
            rw [hnx]
            refine pao [.f (.tup []) (fun s => s.set σ.length zj)] rfl ?_ ?_
            · (repeat' with_reducible apply AllP_cons) <;> try exact aC
              · refine OpSpec.storeP (id := σ.length) (gT := some 34) (cs := [.int .i64 0, .str [], .int .i64 0]) (y := jobA j) rfl rfl rfl ?_ rfl rfl ?_ (lble rfl) ?_
                · show jobA (t.jobs)[0] = _
                  rw [hjj]
                · rw [hz5, hz0]
                · rw [hzj]; rfl
            refine S_ret (ret_c2 (id := σ.length) (off := 0) (cur := 0) (cs := j.cells) (g := ⟨false, some 34⟩) rfl rfl ?_ rfl rfl ⟨rfl, rv2, es4, ?_, ?_⟩)
            · show ((_ : Heap).set _ _)[σ.length]? = _
              rw [set_eq hz5, hzj]
            · exact h5.keep (Alive.set' h5.al (by rw [hzj]; exact ⟨_, rfl⟩) _) fun id ho => set_ne fun e => hn5 (e ▸ ho)
            · exact hkk.set (Nat.le_refl _) _
          case _ =>
            obtain ⟨e1, _⟩ := hv
            cases e1
        · have d1 : decide (j.cost ≤ c) = false := decide_eq_false hcc
          obtain ⟨T4, hT4⟩ : ∃ T4 : Nat × Option Box, T4 = (0, some (tnB ⟨t.num, c, false, t.jobs⟩ e)) := ⟨_, rfl⟩
          have h4 := h3.cred hi0 (Nat.zero_lt_succ _) ⟨t.num, c, false, t.jobs⟩ rfl
          have h4 : QAt (σ3.set e.tid T4) q rid rv2 (e :: es3) quan (⟨t.num, c, false, t.jobs⟩ :: r) := by rw [hT4]; exact h4
          have hk4 : QKeep σ (σ3.set e.tid T4) (Own q rid es) (Own q rid (e :: es3)) := hk3.trans (QAt.credK hi0)
          have hz4 : (σ3.set e.tid T4)[σ.length]? = some z0 := by rw [set_ne hzt]; exact hz3
          have h5 := h4.rot
          obtain ⟨R2, hR2⟩ : ∃ R2 : Nat × Option Box, R2 = (rv2 + 1, some (.cells ((rgC (e :: es3)).drop 1 ++ [AV.ptr e.tid 0 0]) ⟨false, none⟩)) := ⟨_, rfl⟩
          obtain ⟨Q2, hQ2⟩ : ∃ Q2 : Nat × Option Box, Q2 = (0, some (quB quan rid (rv2 + 1) (⟨t.num, c, false, t.jobs⟩ :: r))) := ⟨_, rfl⟩
          rw [← hR2, ← hQ2] at h5
          have hk5 := hk4.trans (QAt.rotK (σ := σ3.set e.tid T4) (q := q) (rid := rid) (e := e) (es := es3) (x := R2) (y := Q2))
          have hz5 : (((σ3.set e.tid T4).set rid R2).set q Q2)[σ.length]? = some z0 := by rw [set_ne (by omega), set_ne (by omega)]; exact hz4
          have hqb4 := h4.qb
          have hrb4 := h4.rb
          refine pao [.v (.ms e.jid e.jv 0 t.jobs.length 3 false), .v .top, .v (.int .i64 j.cost), .v (.int .i64 c), .b false, .f (.tup []) (fun s => s.set e.tid T4), .v (.ms rid rv2 0 (r.length + 1) 1 false), .f (.ms rid (rv2 + 1) 0 (r.length + 1) 1 false) (fun s => s.set rid R2), .f (.tup []) (fun s => s.set q Q2)] rfl ?_ ?_
          · (repeat' with_reducible apply AllP_cons) <;> try exact aC
            · exact OpSpec.loadP rfl rfl rfl rfl k3 rfl
            · exact OpSpec.loadE rfl rfl rfl rfl k4 hcost
            · exact OpSpec.loadP rfl rfl rfl rfl k3 rfl
            · exact OpSpec.storeP (y := .bool false) rfl rfl rfl rfl rfl rfl k3 (lble rfl) (by rw [hT4]; rfl)
            · exact OpSpec.loadP rfl rfl rfl rfl hqb4 rfl
            · refine OpSpec.appendX (id := rid) (ver := rv2) (off := 1) (len := r.length) (y := .ptr e.tid 0 0) (cs := rgC (e :: es3)) rfl rfl rfl rfl rfl (fun z hz => ?_) hrb4 ?_ ?_ ?_ ?_
              · have hz : z ∈ [AV.ptr e.tid 0 0] := hz
                rw [List.mem_singleton.1 hz]; rfl
              · have hl : es3.length = r.length := Nat.succ.inj hlen2
                simp [rgC, hl]; omega
              · show (r.length + 1) * 8 ≤ 140737488355328
                rw [List.length_cons] at hrl; omega
              · rw [List.length_cons] at hrl; omega
              · rw [hR2]; rfl
            · refine OpSpec.storeP (id := q) (gT := some 56) (cs := [.int .i64 quan, .ms rid rv2 0 (r.length + 1) 1 false, .int .i64 (manyQ (⟨t.num, c, false, t.jobs⟩ :: r) : Nat)]) rfl rfl rfl rfl rfl rfl ?_ (lble rfl) ?_
              · show ((_ : Heap).set _ _)[q]? = _
                rw [set_ne hqr]; exact hqb4
              · rw [hQ2]; rfl
          have hrot := hok2.rot hj (by rw [← hc]; exact hcc)
          rw [hre] at hrot
          refine S_round (((σ3.set e.tid T4).set rid R2).set q Q2, rv2 + 1, es3 ++ [e], r ++ [⟨t.num, c, false, t.jobs⟩]) hrot.2 ⟨h5, hk5, hz5, fun ho => ?_, hrot.1, f, ?_, ?_⟩ (.cons rfl (.cons rfl (.nil _))) rfl
          · rcases ho with h' | h' | ⟨x, hx, h'⟩
            · exact hn2 (.inl h')
            · exact hn2 (.inr (.inl h'))
            · refine hn2 (.inr (.inr ⟨x, ?_, h'⟩))
              rcases List.mem_append.1 hx with hx | hx
              · exact List.mem_cons_of_mem _ hx
              · rw [List.mem_singleton.1 hx]; exact List.mem_cons_self ..
          · have := hrot.2
            show mQ (r ++ [⟨t.num, c, false, t.jobs⟩]) < f
            omega
          · rw [← hnf]
            show nxtF f quan (r ++ [⟨t.num, c, false, t.jobs⟩]) = _
            conv => rhs; rw [nxtF]
            simp only [hj]
            rw [← hc, if_neg hcc]
end Go.Proofs.Ytjaflkgfipaajaa
end
section
set_option linter.unusedVariables false
set_option linter.unusedSimpArgs false
set_option maxRecDepth 20000
set_option maxHeartbeats 2000000
namespace Go.Proofs.Ytjaflkgfipaajaa
open Go Go.Ab
def newQ (quan : Int) : Heap := [(0, some (.cells [.int .i64 quan, .nils, .int .i64 0] ⟨false, some 56⟩))]
theorem New_ok (quan : Int) (h : 1 ≤ quan ∧ quan ≤ 1000) : CallOk cx 8 [.int .i64 quan] [] (fun o s => o = .ret (.tup [.ptr 0 0 0, .int .i64 0]) ∧ s = newQ quan) :=
  callOk_intro (fun a w => Try.call8 a w) Try.func8 rfl Try.ntmps8 rfl fun B => by
    have c1 : decide (quan < 1) = false := decide_eq_false (by omega)
    have c2 : decide (quan > 1000) = false := decide_eq_false (by omega)
    refine pB [.b false, .b false] rfl ?_
    exact S_ret ⟨_, _, rfl, trivial, rfl, rfl⟩
theorem NewE_ok (quan : Int) (h : quan < 1 ∨ quan > 1000) : Calc cx 8 [.int .i64 quan] (.tup [.nilp, .int .i64 3]) :=
  pure_intro (fun a w => Try.call8 a w) Try.func8 rfl Try.ntmps8 rfl (.tup (fun a ha => by rcases List.mem_cons.1 ha with rfl | ha; exact .nilp; rw [List.mem_singleton.1 ha]; exact .int)) fun B => by
    by_cases h1 : quan < 1
    · have c1 : decide (quan < 1) = true := decide_eq_true h1
      refine pB [.b true, .b true] rfl ?_
      exact S_ret ⟨_, _, rfl, trivial, _, rfl, .refl (.tup (fun a ha => by rcases List.mem_cons.1 ha with rfl | ha; exact .nilp; rw [List.mem_singleton.1 ha]; exact .int))⟩
    · have c1 : decide (quan < 1) = false := decide_eq_false h1
      have c2 : decide (quan > 1000) = true := decide_eq_true (by omega)
      refine pB [.b false, .b true] rfl ?_
      exact S_ret ⟨_, _, rfl, trivial, _, rfl, .refl (.tup (fun a ha => by rcases List.mem_cons.1 ha with rfl | ha; exact .nilp; rw [List.mem_singleton.1 ha]; exact .int))⟩
def newH (quan : Int) : Heap := [(0, some (.cells [.int .i64 quan, .ms 1 0 0 0 1 false, .int .i64 0] ⟨false, some 56⟩)), (0, some (.cells [] ⟨false, none⟩))]
theorem newH_at (quan : Int) : QAt (newH quan) 0 1 0 [] quan [] := by
  refine ⟨fun e he => ?_, rfl, rfl, .nil, ⟨by decide, (fun p hp => by cases hp), .nil⟩⟩
  rcases List.mem_cons.1 he with rfl | he
  · exact ⟨_, rfl⟩
  · rw [List.mem_singleton.1 he]; exact ⟨_, rfl⟩
theorem ok0 {quan : Int} (h : 1 ≤ quan ∧ quan ≤ 1000) : QOk quan [] := ⟨h, (fun t ht => by cases ht), (fun t ht => by cases ht), (fun t ht => by cases ht), (fun t ht => by cases ht), Nat.zero_le _⟩
def jobX : QJ := ⟨1, [97], 3⟩
theorem putX : putE [] jobX = 0 := by decide
theorem nxtX : nxtQ 5 (addJ [] jobX) = (some jobX, []) := rfl
theorem okX : QOk 5 (addJ [] jobX) := by
  refine ⟨by decide, fun t ht => ?_, fun t ht => ?_, fun t ht => ?_, (fun t ht => by cases ht), by decide⟩
  · rw [List.mem_singleton.1 ht]; simp
  · rw [List.mem_singleton.1 ht]; decide
  · rw [List.mem_singleton.1 ht]
    intro j hj
    rw [List.mem_singleton.1 hj]; decide
theorem queueBegun_ok : Calc cx 7 [] (.bool true) :=
  pure_intro (fun a w => Try.call7 a w) Try.func7 rfl Try.ntmps7 rfl .bool fun B => by
    have hN := New_ok 5 (by decide)
    refine pao [.f (.tup [.ptr 0 0 0, .int .i64 0]) (fun _ => newQ 5), .b false, .b false, .b false] rfl ?_ ?_
    · (repeat' with_reducible apply AllP_cons) <;> try exact aC
    refine S_ghost (id := 0) (gid := 1) (gver := 0) (j := 1) (σ' := newQ 5 ++ [(0, some (.cells [] ⟨false, none⟩))]) 1 ⟨false, none⟩ rfl rfl rfl (by decide) ⟨.skip, _, .inr ⟨_, _, _, rfl⟩⟩ ?_
    refine S_heap (newH 5) rfl ?_
    have hP := Put_ok (newH 5) 0 1 0 [] 5 [] jobX (newH_at 5) (by decide) (by decide) (by decide)
    rw [putX] at hP
    refine S_call rfl rfl rfl hP (fun v' σ' hv => ?_) (fun v' σ' hv => ?_)
    case _ =>
      obtain ⟨e1, rv', es', h1, _⟩ := hv
      cases e1
      have h1 : QAt σ' 0 1 rv' es' 5 (addJ [] jobX) := h1
      have hX := Next_ok σ' 0 1 rv' es' 5 _ h1 okX
      rw [nxtX] at hX
      refine pao [] rfl ?_ ?_
      · (repeat' with_reducible apply AllP_cons) <;> try exact aC
      refine S_call rfl rfl rfl hX (fun v' σ2 hv => ?_) (fun v' σ2 hv => ?_)
      case _ =>
        obtain ⟨e1, rv2, es2, h2, _⟩ := hv
        cases e1
        refine pao [.f (.ptr σ2.length 0 0) (fun s => s ++ [(0, some (.cells [.int .i64 0, .str [], .int .i64 0] ⟨false, some 34⟩))]), .f (.tup []) (fun _ => σ2 ++ [(0, some (.cells jobX.cells ⟨false, some 34⟩))]), .b true, .b true, .v (.str [97])] rfl ?_ ?_
        · (repeat' with_reducible apply AllP_cons) <;> try exact aC
          · exact OpSpec.allocE rfl rfl rfl rfl h2.al
          · exact OpSpec.storeP (y := jobA jobX) rfl rfl rfl rfl rfl rfl app_last (lble rfl) (by rw [List.set_append_right _ _ (Nat.le_refl _), Nat.sub_self]; rfl)
          · exact OpSpec.loadP rfl rfl rfl rfl app_last rfl
        exact S_ret ⟨_, _, rfl, trivial, _, rfl, .refl .bool⟩
      case _ =>
        obtain ⟨e1, _⟩ := hv
        cases e1
    case _ =>
      obtain ⟨e1, _⟩ := hv
      cases e1
end Go.Proofs.Ytjaflkgfipaajaa
end
section
set_option linter.unusedVariables false
set_option linter.unusedSimpArgs false
set_option maxRecDepth 20000
namespace Go.Proofs.Ytjaflkgfipaajaa
open Go Go.Ab
def chooseN (c : Int) (n : Nat) : Nat := (if c < 0 then (-(c + 1)).toNat else c.toNat) % n
theorem choose_ok (c : Int) (n : Nat) (hc : -9223372036854775808 ≤ c ∧ c ≤ 9223372036854775807) (hn : 0 < n) (hn2 : n ≤ 9223372036854775807) : Calc cx 10 [.int .i64 c, .int .i64 n] (.int .i64 (chooseN c n)) :=
  pure_intro (fun a w => Try.call10 a w) Try.func10 rfl Try.ntmps10 rfl .int fun B => by
    refine ab 1000 rfl trivial ?_
    have hmod : ∀ m : Nat, ((m : Int).tmod n) = ((m % n : Nat) : Int) := fun m => rfl
    refine S_dec rfl (fun h => ?_) (fun h => ?_)
    · have hw : IntKind.i64.wrap (0 - IntKind.i64.wrap (c + 1)) = (((-(c + 1)).toNat : Nat) : Int) := by
        have e1 : IntKind.i64.wrap (c + 1) = c + 1 := IntWalk.i64_in _ ⟨by omega, by omega⟩
        rw [e1]
        exact w64 (by omega) (by omega)
      refine ab 1000 rfl ⟨by omega, trivial⟩ ?_
      refine S_retc .int rfl trivial ?_
      show AV.int .i64 ((IntKind.i64.wrap (0 - IntKind.i64.wrap (c + 1))).tmod n) = _
      rw [hw, hmod, chooseN, if_pos h]
    · refine ab 1000 rfl ⟨by omega, trivial⟩ ?_
      refine S_retc .int rfl trivial ?_
      obtain ⟨m, rfl⟩ := Int.eq_ofNat_of_zero_le (by omega : 0 ≤ c)
      show AV.int .i64 ((m : Int).tmod n) = _
      rw [hmod, chooseN, if_neg h, Int.toNat_natCast]
theorem chooseN_lt (c : Int) {n : Nat} (hn : 0 < n) : chooseN c n < n := Nat.mod_lt _ hn
end Go.Proofs.Ytjaflkgfipaajaa
end
section
set_option linter.unusedVariables false
set_option linter.unusedSimpArgs false
set_option maxRecDepth 20000
namespace Go.Proofs.Ytjaflkgfipaajaa
open Go Go.Ab
theorem addJ_mem {j : QJ} : ∀ {ring : List QT} {t : QT}, t ∈ addJ ring j → t ∈ ring ∨ (∃ t0 ∈ ring, t = moreJ t0 j) ∨ t = ⟨j.ten, 0, false, [j]⟩
  | [], t, h => by rw [addJ] at h; exact .inr (.inr (List.mem_singleton.1 h))
  | x :: r, t, h => by
    rw [addJ] at h
    split at h
    · rcases List.mem_cons.1 h with h | h
      · exact .inr (.inl ⟨x, List.mem_cons_self .., h⟩)
      · exact .inl (List.mem_cons_of_mem _ h)
    · rcases List.mem_cons.1 h with h | h
      · exact .inl (by rw [h]; exact List.mem_cons_self ..)
      · rcases addJ_mem h with h | ⟨t0, h0, h⟩ | h
        · exact .inl (List.mem_cons_of_mem _ h)
        · exact .inr (.inl ⟨t0, List.mem_cons_of_mem _ h0, h⟩)
        · exact .inr (.inr h)
theorem many_addJ {j : QJ} : ∀ (ring : List QT), manyQ (addJ ring j) = manyQ ring + 1
  | [] => rfl
  | x :: r => by
    rw [addJ]
    split
    · show (x.jobs ++ [j]).length + manyQ r = _
      rw [manyQ, List.length_append]; simp only [List.length_cons, List.length_nil]; omega
    · rw [manyQ, manyQ, many_addJ r]; omega
theorem QOk.add {quan : Int} {ring : List QT} {j : QJ} (h : QOk quan ring) (hp : putE ring j = 0) : QOk quan (addJ ring j) := by
  have hc : 1 ≤ j.cost ∧ j.cost ≤ 1000 := by
    unfold putE at hp
    by_cases h0 : j.ten < 1 ∨ j.ten > 20 ∨ j.cost < 1 ∨ j.cost > 1000
    · rw [if_pos h0] at hp; cases hp
    · omega
  have hm : manyQ ring ≠ 200 := by
    unfold putE at hp
    split at hp
    · cases hp
    · split at hp
      · cases hp
      · split at hp
        · cases hp
        · split at hp
          · cases hp
          · assumption
  have hmn := h.mn
  refine ⟨h.q1, fun t ht => ?_, fun t ht => ?_, fun t ht => ?_, fun t ht => ?_, by rw [many_addJ]; omega⟩
  · rcases addJ_mem ht with ht | ⟨t0, h0, rfl⟩ | rfl
    · exact h.ne t ht
    · show t0.jobs ++ [j] ≠ []; simp
    · simp
  · rcases addJ_mem ht with ht | ⟨t0, h0, rfl⟩ | rfl
    · exact h.cr t ht
    · exact h.cr t0 h0
    · exact ⟨Int.le_refl _, by show (0 : Int) ≤ 1999; decide, fun _ => by show (0 : Int) ≤ 999; decide⟩
  · rcases addJ_mem ht with ht | ⟨t0, h0, rfl⟩ | rfl
    · exact h.co t ht
    · intro x hx
      rcases List.mem_append.1 hx with hx | hx
      · exact h.co t0 h0 x hx
      · rw [List.mem_singleton.1 hx]; exact hc
    · intro x hx
      rw [List.mem_singleton.1 hx]; exact hc
  · cases hr : ring with
    | nil => rw [hr] at ht; cases ht
    | cons x r =>
      rw [hr, addJ] at ht
      have htl := h.tl
      rw [hr] at htl
      split at ht
      · exact htl t ht
      · rcases addJ_mem (show t ∈ addJ r j from ht) with ht | ⟨t0, h0, rfl⟩ | rfl
        · exact htl t ht
        · exact htl t0 h0
        · rfl
end Go.Proofs.Ytjaflkgfipaajaa
end
section
set_option linter.unusedVariables false
set_option linter.unusedSimpArgs false
set_option maxRecDepth 20000
namespace Go.Proofs.Ytjaflkgfipaajaa
open Go Go.Ab
theorem getErase {α : Type} : ∀ {l : List α} {i : Nat} (h : i < l.length), (l[i] :: l.eraseIdx i).Perm l
  | x :: r, 0, _ => .refl _
  | x :: r, i + 1, h => by
    have := getErase (l := r) (i := i) (Nat.lt_of_succ_lt_succ h)
    exact (List.Perm.swap ..).trans (this.cons x)
theorem setErase {α : Type} (a : α) : ∀ {l : List α} {i : Nat} (h : i < l.length), (l.set i a).Perm (a :: l.eraseIdx i)
  | x :: r, 0, _ => .refl _
  | x :: r, i + 1, h => by
    have := setErase a (l := r) (i := i) (Nat.lt_of_succ_lt_succ h)
    exact (this.cons x).trans (List.Perm.swap ..)
def nmsQ (ring : List QT) : List Nm := ring.flatMap fun t => t.jobs.map QJ.name
theorem nmsQ_cons (t : QT) (r : List QT) : nmsQ (t :: r) = t.jobs.map QJ.name ++ nmsQ r := by unfold nmsQ; rw [List.flatMap_cons]
theorem nmsQ_perm {a b : List QT} (h : a.Perm b) : (nmsQ a).Perm (nmsQ b) := h.flatMap_right _
theorem nmsQ_len : ∀ ring : List QT, (nmsQ ring).length = manyQ ring
  | [] => rfl
  | t :: r => by rw [nmsQ_cons, List.length_append, List.length_map, nmsQ_len r, manyQ]
theorem takR_eq {ring : List QT} {i k : Nat} (hi : i < ring.length) : takR ring i k = if (ring[i].jobs.eraseIdx k) = [] then ring.eraseIdx i else ring.set i (lessJ ring[i] k) := by
  unfold takR
  rw [List.getElem?_eq_getElem hi]
theorem nms_take {ring : List QT} {i k : Nat} (hi : i < ring.length) (hk : k < ring[i].jobs.length) : (ring[i].jobs[k].name :: nmsQ (takR ring i k)).Perm (nmsQ ring) := by
  have h1 : (ring[i] :: ring.eraseIdx i).Perm ring := getErase hi
  have h2 : (ring[i].jobs[k] :: ring[i].jobs.eraseIdx k).Perm ring[i].jobs := getErase hk
  have h3 : (nmsQ (takR ring i k)).Perm ((ring[i].jobs.eraseIdx k).map QJ.name ++ nmsQ (ring.eraseIdx i)) := by
    rw [takR_eq hi]
    split
    · rename_i he
      rw [he]; exact .refl _
    · have := nmsQ_perm (setErase (lessJ ring[i] k) hi)
      rw [nmsQ_cons] at this
      exact this
  refine (h3.cons _).trans ?_
  refine List.Perm.trans ?_ (nmsQ_perm h1)
  rw [nmsQ_cons, ← List.cons_append, ← List.map_cons]
  exact (h2.map _).append_right _
theorem fnd_some {name : Nm} : ∀ {ring : List QT} {i k : Nat}, fndQ ring name = some (i, k) → ∃ (hi : i < ring.length) (hk : k < ring[i].jobs.length), ring[i].jobs[k].name = name
  | [], i, k, h => by cases h
  | x :: r, i, k, h => by
    rw [fndQ] at h
    split at h
    · rename_i k' hf
      cases h
      obtain ⟨h1, h2, _⟩ := List.findIdx?_eq_some_iff_getElem.1 hf
      exact ⟨Nat.zero_lt_succ _, h1, by simpa using h2⟩
    · rename_i hf
      cases hr : fndQ r name with
      | none => rw [hr] at h; cases h
      | some p =>
        rw [hr] at h
        cases h
        obtain ⟨h1, h2, h3⟩ := fnd_some (ring := r) (i := p.1) (k := p.2) hr
        exact ⟨Nat.succ_lt_succ h1, h2, h3⟩
theorem fnd_none {name : Nm} : ∀ {ring : List QT}, fndQ ring name = none → name ∉ nmsQ ring
  | [], h => by intro hm; cases hm
  | x :: r, h => by
    rw [fndQ] at h
    split at h
    · cases h
    · rename_i hf
      cases hr : fndQ r name with
      | some p => rw [hr] at h; cases h
      | none =>
        rw [nmsQ_cons]
        intro hm
        rcases List.mem_append.1 hm with hm | hm
        · obtain ⟨j, hj, he⟩ := List.mem_map.1 hm
          have := List.findIdx?_eq_none_iff.1 hf j hj
          simp [he] at this
        · exact fnd_none hr hm
theorem put_new {ring : List QT} {j : QJ} (h : putE ring j = 0) : j.name ∉ nmsQ ring := by
  unfold putE at h
  split at h
  · cases h
  · split at h
    · cases h
    · split at h
      · cases h
      · rename_i hf
        refine fnd_none ?_
        cases hq : fndQ ring j.name with
        | none => rfl
        | some p => exact absurd (by rw [hq]; simp) hf
theorem many_take {ring : List QT} {i k : Nat} (hi : i < ring.length) (hk : k < ring[i].jobs.length) : manyQ (takR ring i k) + 1 = manyQ ring := by
  have := (nms_take hi hk).length_eq
  rw [List.length_cons, nmsQ_len, nmsQ_len] at this
  exact this
theorem QOk.take {quan : Int} {ring : List QT} (h : QOk quan ring) {i k : Nat} (hi : i < ring.length) (hk : k < ring[i].jobs.length) : QOk quan (takR ring i k) := by
  have hm := many_take hi hk
  have hmn := h.mn
  have hmem : ∀ t ∈ takR ring i k, t ∈ ring ∨ (t = lessJ ring[i] k ∧ t.jobs ≠ []) := fun t ht => by
    rw [takR_eq hi] at ht
    split at ht
    · exact .inl (List.mem_of_mem_eraseIdx ht)
    · rename_i hne
      rcases List.mem_or_eq_of_mem_set ht with ht | ht
      · exact .inl ht
      · exact .inr ⟨ht, by rw [ht]; exact hne⟩
  have hin : ring[i] ∈ ring := List.getElem_mem hi
  refine ⟨h.q1, fun t ht => ?_, fun t ht => ?_, fun t ht => ?_, fun t ht => ?_, by omega⟩
  · rcases hmem t ht with ht | ⟨rfl, h2⟩
    · exact h.ne t ht
    · exact h2
  · rcases hmem t ht with ht | ⟨rfl, h2⟩
    · exact h.cr t ht
    · exact h.cr ring[i] hin
  · rcases hmem t ht with ht | ⟨rfl, h2⟩
    · exact h.co t ht
    · intro j hj
      exact h.co _ hin j (List.mem_of_mem_eraseIdx hj)
  · have htl := h.tl
    rw [takR_eq hi] at ht
    cases ring with
    | nil => cases hi
    | cons x r =>
      have htl : ∀ t ∈ r, t.turn = false := htl
      split at ht
      · cases i with
        | zero => exact htl t (List.mem_of_mem_tail ht)
        | succ i => exact htl t (List.mem_of_mem_eraseIdx (show t ∈ r.eraseIdx i from ht))
      · cases i with
        | zero => exact htl t ht
        | succ i =>
          have hi' : i < r.length := Nat.lt_of_succ_lt_succ hi
          rcases List.mem_or_eq_of_mem_set (show t ∈ r.set i (lessJ r[i] k) from ht) with ht | ht
          · exact htl t ht
          · rw [ht]; exact htl r[i] (List.getElem_mem hi')
theorem nxt_spec {quan : Int} : ∀ (f : Nat) (ring : List QT), QOk quan ring → mQ ring < f → ring = [] ∧ nxtF f quan ring = (none, []) ∨ ∃ j r', nxtF f quan ring = (some j, r') ∧ (j.name :: nmsQ r').Perm (nmsQ ring) ∧ QOk quan r'
  | 0, _, _, h => by omega
  | f + 1, [], _, _ => .inl ⟨rfl, rfl⟩
  | f + 1, t :: r, hok, hm => by
    right
    obtain ⟨j, js, hj⟩ : ∃ j js, t.jobs = j :: js := by
      cases hh : t.jobs with
      | nil => exact absurd hh (hok.ne t (List.mem_cons_self ..))
      | cons j js => exact ⟨j, js, rfl⟩
    rw [nxtF]
    simp only [hj]
    obtain ⟨c1, c2, c3⟩ := hok.cr t (List.mem_cons_self ..)
    obtain ⟨d1, d2⟩ := hok.co t (List.mem_cons_self ..) j (by rw [hj]; exact List.mem_cons_self ..)
    have hq := hok.q1
    by_cases hc : j.cost ≤ (if t.turn = true then t.cred else t.cred + quan)
    · rw [if_pos hc]
      obtain ⟨c, hcc⟩ : ∃ c, c = (if t.turn = true then t.cred else t.cred + quan) - j.cost := ⟨_, rfl⟩
      have hcb : 0 ≤ c ∧ c ≤ 1999 := by
        rw [hcc]
        split
        · split at hc <;> omega
        · rename_i hx
          have := c3 (by simpa using hx)
          rw [if_neg hx] at hc
          omega
      rw [← hcc, ← hj]
      have hok2 : QOk quan (⟨t.num, c, true, t.jobs⟩ :: r) := by
        refine ⟨hok.q1, fun x hx => ?_, fun x hx => ?_, fun x hx => ?_, fun x hx => hok.tl x hx, hok.mn⟩
        · rcases List.mem_cons.1 hx with rfl | hx
          · exact hok.ne t (List.mem_cons_self ..)
          · exact hok.ne x (List.mem_cons_of_mem _ hx)
        · rcases List.mem_cons.1 hx with rfl | hx
          · exact ⟨hcb.1, hcb.2, fun h => by cases h⟩
          · exact hok.cr x (List.mem_cons_of_mem _ hx)
        · rcases List.mem_cons.1 hx with rfl | hx
          · exact hok.co t (List.mem_cons_self ..)
          · exact hok.co x (List.mem_cons_of_mem _ hx)
      have hk0 : 0 < ((⟨t.num, c, true, t.jobs⟩ :: r : List QT)[0]'(Nat.zero_lt_succ _)).jobs.length := by
        show 0 < t.jobs.length
        rw [hj]; exact Nat.zero_lt_succ _
      refine ⟨j, _, rfl, ?_, hok2.take (Nat.zero_lt_succ _) hk0⟩
      have := nms_take (ring := ⟨t.num, c, true, t.jobs⟩ :: r) (Nat.zero_lt_succ _) hk0
      have he : ((⟨t.num, c, true, t.jobs⟩ :: r : List QT)[0]'(Nat.zero_lt_succ _)).jobs[0]'hk0 = j := by simp [hj]
      rw [he] at this
      exact this
    · rw [if_neg hc]
      obtain ⟨k1, k2⟩ := hok.rot hj hc
      have hre : rested quan t = ⟨t.num, if t.turn = true then t.cred else t.cred + quan, false, j :: js⟩ := by unfold rested; rw [hj]
      rw [hre] at k1 k2
      rcases nxt_spec f _ k1 (by omega) with ⟨h1, _⟩ | ⟨j', r', h1, h2, h3⟩
      · simp at h1
      · refine ⟨j', r', h1, h2.trans ?_, h3⟩
        have : (r ++ [(⟨t.num, if t.turn = true then t.cred else t.cred + quan, false, j :: js⟩ : QT)]).Perm (⟨t.num, if t.turn = true then t.cred else t.cred + quan, false, j :: js⟩ :: r) := List.perm_append_comm
        refine (nmsQ_perm this).trans ?_
        rw [nmsQ_cons, nmsQ_cons, hj]
end Go.Proofs.Ytjaflkgfipaajaa
end
section
set_option linter.unusedVariables false
set_option linter.unusedSimpArgs false
namespace Go.Ab
open Go
def rpLoad (cx : Cx) (fr : Fr) : Op → Bool
  | .load _ a => match ev cx fr a with
    | .rp .. => true
    | _ => false
  | _ => false
def oneZ {α : Type} (cx : Cx) (K : List Nat) (n : Nat) (all : Array Oper) (s : Heap) (o : Oper) (fr : Fr) (rs : List AV) (c : List Prop → AV → List AV → Option α) : Option α :=
  match dstOk n o.dst with
  | false => none
  | true => match guardA all o K fr with
    | none => none
    | some false => c [] (.tup []) rs
    | some true => match callA cx fr o.op with
      | some (f, args) => match rs with
        | x :: rs => c [∃ args', Calc cx f args' x ∧ Frzs s args args'] x rs
        | [] => none
      | none => match heapOp o.op || stopOp o.op with
        | false => match aOp cx [] o.dst o.op fr s with
          | some (C, v, s') => forceV v fun v => c ((s' = s) :: C) v rs
          | none => none
        | true => match rs with
          | [] => none
          | x :: rs => match rpLoad cx fr o.op with
            | true => match loadA cx fr s o.op x with
              | some D => c D x rs
              | none => none
            | false => match idxA cx fr s o.op x with
              | some (D, v) => forceV v fun v => c D v rs
              | none => c [OpSpec cx n fr s o x s] x rs
theorem oneZ_spec {α : Type} {cx : Cx} {n : Nat} {K : List Nat} {all : Array Oper} {s : Heap} {o : Oper} {fr : Fr} {rs : List AV} {c : List Prop → AV → List AV → Option α} {a : α} (h : oneZ cx K n all s o fr rs c = some a) :
    ∃ C v rs', c C v rs' = some a ∧ (AllP C → StepX cx n all s s K fr o v) := by
  unfold oneZ at h
  split at h
  · cases h
  rename_i hd
  split at h
  · cases h
  · rename_i hg
    exact ⟨_, _, _, h, fun _ => ⟨hd, .inl ⟨hg, rfl, rfl⟩⟩⟩
  rename_i hg
  split at h
  · rename_i f args hc
    split at h
    · rename_i x rs'
      refine ⟨_, _, _, h, fun hC => ?_⟩
      obtain ⟨⟨args', h1, h2⟩, _⟩ := hC
      have : oneD cx K n all s o fr [x] = some ([∃ args', Calc cx f args' x ∧ Frzs s args args'], x, []) := by
        unfold oneD
        rw [hd]
        simp only [hg, hc]
      exact (oneD_spec this ⟨⟨args', h1, h2⟩, trivial⟩).x
    · cases h
  · split at h
    · split at h
      · rename_i C v s' ha
        rw [forceV_eq] at h
        refine ⟨_, _, _, h, fun hC => ?_⟩
        obtain ⟨e, hC⟩ := hC
        subst e
        exact opC_step hd hg ha hC
      · cases h
    · split at h
      · cases h
      · rename_i x rs'
        split at h
        · split at h
          · rename_i D hl
            exact ⟨_, _, _, h, fun hC => specC_step hd hg fun r a w hi hf => loadA_run hi hf hl hC⟩
          · cases h
        · split at h
          · rename_i D v hx
            rw [forceV_eq] at h
            exact ⟨_, _, _, h, fun hC => specC_step hd hg fun r a w hi hf => idxA_run hi hf hx hC⟩
          · exact ⟨_, _, _, h, fun hC => specC_step hd hg hC.1⟩
def appK {α : Type} : List Prop → List Prop → (List Prop → α) → α
  | [], D, c => c D
  | x :: r, D, c => appK r D fun l => c (x :: l)
theorem appK_eq {α : Type} : ∀ (C D : List Prop) (c : List Prop → α), appK C D c = c (C ++ D)
  | [], D, c => rfl
  | x :: r, D, c => by rw [appK, appK_eq r]; rfl
def oneX {α : Type} (cx : Cx) (K : List Nat) (n : Nat) (all : Array Oper) (s : Heap) (o : Oper) (fr : Fr) (rs : List AV) (b : Bool) (c : List Prop → AV → List AV → Option α) : Option α :=
  oneZ cx K n all s o fr rs fun C v rs => match b with
    | true => c [] v rs
    | false => c C v rs
theorem oneX_spec {α : Type} {cx : Cx} {n : Nat} {K : List Nat} {all : Array Oper} {s : Heap} {o : Oper} {fr : Fr} {rs : List AV} {b : Bool} {c : List Prop → AV → List AV → Option α} {a : α} (h : oneX cx K n all s o fr rs b c = some a) :
    ∃ C v rs', c C v rs' = some a ∧ (b = false → AllP C → StepX cx n all s s K fr o v) := by
  obtain ⟨C, v, rs', h1, h2⟩ := oneZ_spec h
  cases b with
  | true => exact ⟨_, _, _, h1, fun h => by cases h⟩
  | false => exact ⟨_, _, _, h1, fun _ => h2⟩
def runZ {α : Type} (cx : Cx) (K : List Nat) (n : Nat) (all : Array Oper) (ops : List Oper) (s : Heap) (J X : List Nat) : List Oper → Nat → Fr → List AV → (List Prop → List AV → Fr → Option α) → Option α
  | [], i, fr, rs, c => c [] [] fr
  | o :: l, i, fr, rs, c => match memN i J with
    | true => match rs with
      | x :: rs => runZ cx K n all ops s J X l (i + 1) (setA o.dst x fr) rs fun D vs fr' => c D (x :: vs) fr'
      | [] => none
    | false => oneX cx K n all s o (restr ops o fr) rs (memN i X) fun C v rs => match isGuard ops i with
      | false => runZ cx K n all ops s J X l (i + 1) (setA o.dst v fr) rs fun D vs fr' => appK C D fun D => c D (v :: vs) fr'
      | true => match v with
        | .bool b => match rs with
          | .bool t :: rs => runZ cx K n all ops s J X l (i + 1) (setA o.dst (.bool t) fr) rs fun D vs fr' => appK C ((b = t) :: D) fun D => c D (.bool t :: vs) fr'
          | _ => none
        | .tup us => runZ cx K n all ops s J X l (i + 1) (setA o.dst (.tup us) fr) rs fun D vs fr' => appK C D fun D => c D (.tup us :: vs) fr'
        | _ => none
theorem runZ_spec {α : Type} {cx : Cx} {n : Nat} {K : List Nat} {all : Array Oper} {ops : List Oper} {s : Heap} {J X : List Nat} {a : α} : ∀ (l : List Oper) (i : Nat) (fr : Fr) (rs : List AV) (c : List Prop → List AV → Fr → Option α), runZ cx K n all ops s J X l i fr rs c = some a →
    ∃ C vals fr', c C vals fr' = some a ∧ vals.length = l.length ∧ fr' = ovl l vals fr ∧ (AllP C → ∀ (j : Nat) (o : Oper) (v : AV), l[j]? = some o → vals[j]? = some v → i + j ∉ J → i + j ∉ X → StepX cx n all s s K (restr ops o (ovl (l.take j) (vals.take j) fr)) o v)
  | [], i, fr, rs, c, h => ⟨_, _, _, h, rfl, rfl, fun _ j o v h => by simp at h⟩
  | o :: l, i, fr, rs, c, h => by
    unfold runZ at h
    split at h
    · rename_i hb
      have hij : i ∈ J := memN_iff.1 hb
      split at h
      · rename_i x rs'
        obtain ⟨D, vs, fr', h1, h2, h3, h4⟩ := runZ_spec l _ _ _ _ h
        refine ⟨_, _, _, h1, by simp [h2], by rw [h3]; rfl, fun hD j oj vj hj hvj hne hnx => ?_⟩
        cases j with
        | zero => exact absurd hij hne
        | succ j =>
          simp only [List.getElem?_cons_succ] at hj hvj
          exact h4 hD j oj vj hj hvj (by rw [show i + 1 + j = i + (j + 1) by omega]; exact hne) (by rw [show i + 1 + j = i + (j + 1) by omega]; exact hnx)
      · cases h
    · obtain ⟨C, v, rs', h1, h2⟩ := oneX_spec h
      have h2 : i ∉ X → AllP C → StepX cx n all s s K (restr ops o fr) o v := fun hnx => h2 (by
        cases hb : memN i X with
        | false => rfl
        | true => exact absurd (memN_iff.1 hb) hnx)
      split at h1
      · obtain ⟨D, vs, fr', k1, k2, k3, k4⟩ := runZ_spec l _ _ _ _ h1
        rw [appK_eq] at k1
        refine ⟨_, _, _, k1, by simp [k2], by rw [k3]; rfl, fun hD j oj vj hj hvj hne hnx => ?_⟩
        obtain ⟨hC, hD⟩ := AllP_append hD
        cases j with
        | zero =>
          simp only [List.getElem?_cons_zero, Option.some.injEq] at hj hvj
          subst hj; subst hvj
          exact h2 hnx hC
        | succ j =>
          simp only [List.getElem?_cons_succ] at hj hvj
          exact k4 hD j oj vj hj hvj (by rw [show i + 1 + j = i + (j + 1) by omega]; exact hne) (by rw [show i + 1 + j = i + (j + 1) by omega]; exact hnx)
      · split at h1
        · rename_i b
          split at h1
          · rename_i t rs''
            obtain ⟨D, vs, fr', k1, k2, k3, k4⟩ := runZ_spec l _ _ _ _ h1
            rw [appK_eq] at k1
            refine ⟨_, _, _, k1, by simp [k2], by rw [k3]; rfl, fun hD j oj vj hj hvj hne hnx => ?_⟩
            obtain ⟨hC, hb, hD2⟩ := AllP_append hD
            subst hb
            cases j with
            | zero =>
              simp only [List.getElem?_cons_zero, Option.some.injEq] at hj hvj
              subst hj; subst hvj
              exact h2 hnx hC
            | succ j =>
              simp only [List.getElem?_cons_succ] at hj hvj
              exact k4 hD2 j oj vj hj hvj (by rw [show i + 1 + j = i + (j + 1) by omega]; exact hne) (by rw [show i + 1 + j = i + (j + 1) by omega]; exact hnx)
          · cases h1
        · rename_i us
          obtain ⟨D, vs, fr', k1, k2, k3, k4⟩ := runZ_spec l _ _ _ _ h1
          rw [appK_eq] at k1
          refine ⟨_, _, _, k1, by simp [k2], by rw [k3]; rfl, fun hD j oj vj hj hvj hne hnx => ?_⟩
          obtain ⟨hC, hD⟩ := AllP_append hD
          cases j with
          | zero =>
            simp only [List.getElem?_cons_zero, Option.some.injEq] at hj hvj
            subst hj; subst hvj
            exact h2 hnx hC
          | succ j =>
            simp only [List.getElem?_cons_succ] at hj hvj
            exact k4 hD j oj vj hj hvj (by rw [show i + 1 + j = i + (j + 1) by omega]; exact hne) (by rw [show i + 1 + j = i + (j + 1) by omega]; exact hnx)
        · cases h1
section
variable {cx : Cx} {n : Nat} {B : Bs} {k : List AI} {Q : Post} {fr : Fr} {σ : Heap}
theorem StepX.d {K : List Nat} {all : Array Oper} {o : Oper} {v : AV} (h : StepX cx n all σ σ K fr o v) : StepD cx n all σ K fr o v := by
  refine ⟨h.1, ?_⟩
  rcases h.2 with ⟨h1, h2, _⟩ | h1
  · exact .inl ⟨h1, h2⟩
  · exact .inr h1
theorem OpSpec.loadRA {o : Oper} {t : TypeId} {a : Operand} {m : Nat} {st : Bool} {cs : List AV} {x : AV} (ho : o.op = .load t a) (ha : aggT cx.P t = some true) (hm : szOf cx.P t = some m) (hea : ev cx fr a = .rp st cs) (hl : m ≤ cs.length) (hx : x = .agg (cs.take m)) : OpSpec cx n fr σ o x σ := by
  intro r ac w hi hf
  refine loadA_run (C := [m ≤ cs.length, x = .agg (cs.take m)]) hi hf ?_ ⟨hl, hx, trivial⟩
  rw [ho]
  simp only [loadA, ha, hm, hea, loadA.loadC]
theorem S_drawO {id : Nat} {ops : Array Oper} (m : Nat) (rs : List AV) {C : List Prop} {vals : List AV} {fr' : Fr} (hP : cx.P.follows .mixedOrders = true) (hchk : drawOk ops.toList m = true) (hmN : Nat.ble m ops.size = true)
    (hrun : runZ cx (guardKs ops.toList ops.toList) n ops ops.toList σ [] [] (ops.toList.take m) 0 fr rs (fun C vs f => some (C, vs, f)) = some (C, vals, fr')) (hC : AllP C)
    (hk : S cx n B (.ops ops (ops.toList.drop m) [] :: k) Q fr' σ) : S cx n B (.code (.region id ops true) :: k) Q fr σ := by
  intro r a w hi hf hd hx
  obtain ⟨c1, c2, c3, c4, c5⟩ := drawOk_spec hchk
  obtain ⟨C', vals', fr'', e, k1, k2, k3⟩ := runZ_spec _ _ _ _ _ hrun
  simp only [Option.some.injEq, Prod.mk.injEq] at e
  obtain ⟨rfl, rfl, rfl⟩ := e
  have k3 := k3 hC
  have hmN' := Nat.le_of_ble_eq_true hmN
  have hlen : vals'.length = m := by rw [k1, List.length_take, Array.length_toList]; omega
  obtain ⟨hi1, hx1⟩ := hi.heap_eq (w' := { w with drawn := w.drawn + 1 }) rfl rfl rfl rfl
  have hf1 := hf.mono (hx1.grow hi)
  have nl : ∀ {j : Nat}, ¬ Listed (Array.replicate ops.size false) j := by
    intro j hj
    unfold Listed at hj
    rw [Array.getD_eq_getD_getElem?, Array.getElem?_replicate] at hj
    split at hj <;> simp at hj
  refine wp_region_any hP ?_
  refine wpAny_front (cx := cx) (n := n) (B := B) (fr := fr) (σ := σ) (m := m) (vals := vals') (K := guardKs ops.toList ops.toList) hmN' hlen c1 c2 c3 c4 c5 (fun j o v hj ho hv => ?_) (fun r a w hi hf hd hx => ?_) ops.size _ r a _ (by simp) ?_ (fun j i hj => ?_) (fun j _ => ?_) ⟨hf1.size, fun j d v _ hj => ?_, fun t _ => hf1.get t, hf1.defs⟩ hi1 hd (hx.trans hx1)
  · have := k3 j o v (by rw [List.getElem?_take_of_lt hj]; exact ho) hv (List.not_mem_nil) (List.not_mem_nil)
    rw [List.take_take, Nat.min_eq_left (by omega)] at this
    exact this.d
  · rw [k2] at hk
    exact hk r a w hi hf hd hx
  · unfold unl; simp [List.countP_replicate]
  · exact absurd hj nl
  · exact nl
  · exact absurd hj nl
theorem S_drawOC {id : Nat} {ops : Array Oper} (σ2 : Heap) (jc m : Nat) (rs : List AV) {C : Heap → List Prop} {vals : List AV} {fr' : Fr} (hP : cx.P.follows .mixedOrders = true) (hchk : drawOk ops.toList m = true) (hmN : Nat.ble m ops.size = true) (hjc : Nat.blt jc m = true)
    (hrun : ∀ s, runZ cx (guardKs ops.toList ops.toList) n ops ops.toList s [jc] [] (ops.toList.take m) 0 fr rs (fun C vs f => some (C, vs, f)) = some (C s, vals, fr')) (hC : ∀ s, s = σ ∨ s = σ2 → AllP (C s))
    (hj : ∀ o v, ops.toList[jc]? = some o → vals[jc]? = some v → StepX cx n ops σ σ2 (guardKs ops.toList ops.toList) (restr ops.toList o (ovl (ops.toList.take jc) (vals.take jc) fr)) o v)
    (hk : S cx n B (.ops ops (ops.toList.drop m) [] :: k) Q fr' σ2) : S cx n B (.code (.region id ops true) :: k) Q fr σ := by
  intro r a w hi hf hd hx
  obtain ⟨c1, c2, c3, c4, c5⟩ := drawOk_spec hchk
  have key : ∀ s, s = σ ∨ s = σ2 → vals.length = (ops.toList.take m).length ∧ fr' = ovl (ops.toList.take m) vals fr ∧ ∀ (j : Nat) (o : Oper) (v : AV), (ops.toList.take m)[j]? = some o → vals[j]? = some v → 0 + j ∉ [jc] → StepX cx n ops s s (guardKs ops.toList ops.toList) (restr ops.toList o (ovl ((ops.toList.take m).take j) (vals.take j) fr)) o v := fun s hs => by
    obtain ⟨C', vals', fr'', e, k1, k2, k3⟩ := runZ_spec _ _ _ _ _ (hrun s)
    simp only [Option.some.injEq, Prod.mk.injEq] at e
    obtain ⟨rfl, rfl, rfl⟩ := e
    exact ⟨k1, k2, fun j o v a b c => k3 (hC s hs) j o v a b c List.not_mem_nil⟩
  obtain ⟨k1, k2, _⟩ := key σ (.inl rfl)
  have hmN' := Nat.le_of_ble_eq_true hmN
  have hjlt := blt_lt hjc
  have hlen : vals.length = m := by rw [k1, List.length_take, Array.length_toList]; omega
  obtain ⟨hi1, hx1⟩ := hi.heap_eq (w' := { w with drawn := w.drawn + 1 }) rfl rfl rfl rfl
  have hf1 := hf.mono (hx1.grow hi)
  have nl : ∀ {j : Nat}, ¬ Listed (Array.replicate ops.size false) j := by
    intro j hj
    unfold Listed at hj
    rw [Array.getD_eq_getD_getElem?, Array.getElem?_replicate] at hj
    split at hj <;> simp at hj
  have h0 : hpC σ σ2 jc (Array.replicate ops.size false) = σ := hpC_out (by
    cases hb : (Array.replicate ops.size false).getD jc false with
    | false => rfl
    | true => exact absurd hb nl)
  refine wp_region_any hP ?_
  refine wpAny_frontC (σ' := σ2) (jc := jc) (cx := cx) (n := n) (B := B) (fr := fr) (σ := σ) (m := m) (vals := vals) (K := guardKs ops.toList ops.toList) hjlt hmN' hlen c1 c2 c3 c4 c5 (fun j o v hjm ho hv => ?_) (fun r a w hi hf hd hx => ?_) ops.size _ r a _ (by simp) ?_ (fun j i hj => ?_) (fun j _ => ?_) ⟨hf1.size, fun j d v _ hj => ?_, fun t _ => hf1.get t, hf1.defs⟩ (by rw [h0]; exact hi1) hd (by rw [h0]; exact hx.trans hx1)
  · refine ⟨fun hne b => ?_, fun e => by subst e; exact hj o v ho hv⟩
    have h := fun s hs => (key s hs).2.2 j o v (by rw [List.getElem?_take_of_lt hjm]; exact ho) hv (by rw [Nat.zero_add, List.mem_singleton]; exact hne)
    rw [List.take_take, Nat.min_eq_left (by omega)] at h
    cases b with
    | true => exact h σ2 (.inr rfl)
    | false => exact h σ (.inl rfl)
  · rw [k2] at hk
    exact hk r a w hi hf hd hx
  · unfold unl; simp [List.countP_replicate]
  · exact absurd hj nl
  · exact nl
  · exact absurd hj nl
def hpL : Heap → List (Nat × Heap) → Array Bool → Heap
  | σ, [], _ => σ
  | σ, (j, σ') :: r, listed => match listed.getD j false with
    | true => hpL σ' r listed
    | false => σ
def stepsL (P : Heap → Nat → Heap → Prop) : Heap → List (Nat × Heap) → Prop
  | _, [] => True
  | σ, (j, σ') :: r => P σ j σ' ∧ stepsL P σ' r
def edgesL (ops : List Oper) : List Nat → Bool
  | j1 :: j2 :: r => edge ops j2 j1 && Nat.blt j1 j2 && edgesL ops (j2 :: r)
  | _ => true
def heapsL : Heap → List (Nat × Heap) → List Heap
  | σ, c => σ :: c.map Prod.snd
theorem hpL_none : ∀ (σ : Heap) (c : List (Nat × Heap)) (listed : Array Bool), (∀ e, c.head? = some e → listed.getD e.1 false = false) → hpL σ c listed = σ
  | σ, [], _, _ => rfl
  | σ, (j, σ') :: r, listed, h => by unfold hpL; rw [h _ rfl]
theorem hpL_keep (listed listed' : Array Bool) : ∀ (σ : Heap) (c : List (Nat × Heap)), (∀ e ∈ c, listed'.getD e.1 false = listed.getD e.1 false) → hpL σ c listed' = hpL σ c listed
  | σ, [], _ => rfl
  | σ, (j, σ') :: r, h => by
    unfold hpL
    rw [h _ (List.mem_cons_self ..), hpL_keep listed listed' σ' r fun e he => h e (List.mem_cons_of_mem _ he)]
theorem hpL_all : ∀ (σ : Heap) (c : List (Nat × Heap)) (listed : Array Bool), (∀ e ∈ c, listed.getD e.1 false = true) → hpL σ c listed = (heapsL σ c).getLast (by simp [heapsL])
  | σ, [], _, _ => rfl
  | σ, (j, σ') :: r, listed, h => by
    unfold hpL
    rw [h _ (List.mem_cons_self ..)]
    simp only
    rw [hpL_all σ' r listed fun e he => h e (List.mem_cons_of_mem _ he)]
    simp [heapsL, List.getLast_cons]
theorem hpL_step {ops : List Oper} {P : Heap → Nat → Heap → Prop} {listed listed' : Array Bool} {j : Nat} (hj : listed.getD j false = false) (hj' : listed'.getD j false = true) (hoth : ∀ i, i ≠ j → listed'.getD i false = listed.getD i false)
    (hdn : ∀ a b, listed.getD a false = true → edge ops a b = true → listed.getD b false = true) (hed : ∀ b, edge ops j b = true → listed.getD b false = true) :
    ∀ (σ : Heap) (c : List (Nat × Heap)), edgesL ops (c.map Prod.fst) = true → stepsL P σ c → j ∈ c.map Prod.fst → P (hpL σ c listed) j (hpL σ c listed')
  | σ, [], _, _, h => by cases h
  | σ, (j1, σ1) :: r, he, hs, hm => by
    by_cases e1 : j = j1
    · subst e1
      have a1 : hpL σ ((j, σ1) :: r) listed = σ := by unfold hpL; rw [hj]
      have a2 : hpL σ ((j, σ1) :: r) listed' = σ1 := by
        unfold hpL; rw [hj']
        simp only
        refine hpL_none σ1 r listed' fun e hhd => ?_
        cases r with
        | nil => cases hhd
        | cons x r' =>
          obtain rfl : x = e := Option.some.inj hhd
          simp only [List.map_cons, edgesL, Bool.and_eq_true] at he
          have hne : x.1 ≠ j := by have := blt_lt he.1.2; omega
          rw [hoth _ hne]
          cases hb : listed.getD x.1 false with
          | false => rfl
          | true => have := hdn _ _ hb he.1.1; rw [hj] at this; cases this
      rw [a1, a2]
      exact hs.1
    · have hm' : j ∈ r.map Prod.fst := by
        rcases List.mem_cons.1 (show j ∈ j1 :: r.map Prod.fst from hm) with h | h
        · exact absurd h e1
        · exact h
      have he' : edgesL ops (r.map Prod.fst) = true := by
        cases r with
        | nil => rfl
        | cons x r' => simp only [List.map_cons, edgesL, Bool.and_eq_true] at he; exact he.2
      have hd1 : ∀ (c : List (Nat × Heap)) (j1 : Nat), edgesL ops (j1 :: c.map Prod.fst) = true → j ∈ c.map Prod.fst → listed.getD j1 false = true := by
        intro c
        induction c with
        | nil => intro j1 _ h; cases h
        | cons x c ih =>
          intro j1 he hm
          simp only [List.map_cons, edgesL, Bool.and_eq_true] at he
          rcases List.mem_cons.1 (show j ∈ x.1 :: c.map Prod.fst from hm) with h | h
          · rw [← h] at he; exact hed _ he.1.1
          · exact hdn _ _ (ih x.1 he.2 h) he.1.1
      have hl1 := hd1 r j1 he hm'
      have a1 : hpL σ ((j1, σ1) :: r) listed = hpL σ1 r listed := by conv => lhs; unfold hpL; rw [hl1]
      have a2 : hpL σ ((j1, σ1) :: r) listed' = hpL σ1 r listed' := by conv => lhs; unfold hpL; rw [hoth _ (Ne.symm e1), hl1]
      rw [a1, a2]
      exact hpL_step hj hj' hoth hdn hed σ1 r he' hs.2 hm'
def exclL (ops : List Oper) (J : List Nat) (m k : Nat) : List Nat := (List.range m).filter fun i => (J.take k).any (fun q => edge ops q i) || (J.drop k).any (fun q => edge ops i q)
def runsL (P : Nat → Heap → Prop) : Nat → List Heap → Prop
  | _, [] => True
  | k, s :: r => P k s ∧ runsL P (k + 1) r
theorem hpL_at {ops : List Oper} {listed : Array Bool} (hdn : ∀ a b, listed.getD a false = true → edge ops a b = true → listed.getD b false = true) : ∀ {P : Nat → Heap → Prop} (k : Nat) (σ : Heap) (c : List (Nat × Heap)), edgesL ops (c.map Prod.fst) = true → runsL P k (heapsL σ c) →
    ∃ q, P (k + q) (hpL σ c listed) ∧ (∀ i ∈ (c.map Prod.fst).take q, listed.getD i false = true) ∧ (∀ i ∈ (c.map Prod.fst).drop q, listed.getD i false = false)
  | P, k, σ, [], _, h => ⟨0, h.1, (fun i hi => by cases hi), (fun i hi => by cases hi)⟩
  | P, k, σ, (j, σ') :: r, he, h => by
    cases hb : listed.getD j false with
    | false =>
      refine ⟨0, ?_, (fun i hi => by simp at hi), fun i hi => ?_⟩
      · unfold hpL; rw [hb]; exact h.1
      · have hall : ∀ (r : List (Nat × Heap)) (j : Nat), edgesL ops (j :: r.map Prod.fst) = true → listed.getD j false = false → ∀ i ∈ j :: r.map Prod.fst, listed.getD i false = false := by
          intro r
          induction r with
          | nil => intro j _ hj i hi; rw [List.mem_singleton.1 hi]; exact hj
          | cons x r ih =>
            intro j he hj i hi
            simp only [List.map_cons, edgesL, Bool.and_eq_true] at he
            rcases List.mem_cons.1 hi with rfl | hi
            · exact hj
            · refine ih x.1 he.2 ?_ i hi
              cases hx : listed.getD x.1 false with
              | false => rfl
              | true => have := hdn _ _ hx he.1.1; rw [hj] at this; cases this
        exact hall r j he hb i hi
    | true =>
      have he' : edgesL ops (r.map Prod.fst) = true := by
        cases r with
        | nil => rfl
        | cons x r' => simp only [List.map_cons, edgesL, Bool.and_eq_true] at he; exact he.2
      obtain ⟨q, h1, h2, h3⟩ := hpL_at hdn (k + 1) σ' r he' h.2
      refine ⟨q + 1, ?_, fun i hi => ?_, fun i hi => h3 i hi⟩
      · have : hpL σ ((j, σ') :: r) listed = hpL σ' r listed := by conv => lhs; unfold hpL; rw [hb]
        rw [this, show k + (q + 1) = k + 1 + q by omega]; exact h1
      · rcases List.mem_cons.1 (show i ∈ j :: (r.map Prod.fst).take q from hi) with rfl | hi
        · exact hb
        · exact h2 i hi
theorem S_drawOL {id : Nat} {ops : Array Oper} (c : List (Nat × Heap)) (σ2 : Heap) (m : Nat) (rs : List AV) (vals : List AV) (fr' : Fr) (hP : cx.P.follows .mixedOrders = true) (hchk : drawOk ops.toList m = true) (hmN : Nat.ble m ops.size = true) (hjm : c.all (fun e => Nat.blt e.1 m) = true) (hed : edgesL ops.toList (c.map Prod.fst) = true) (hds : (ops.toList.take m).all (fun o => dstOk n o.dst) = true)
    (hrun : runsL (fun k s => ∃ C, runZ cx (guardKs ops.toList ops.toList) n ops ops.toList s (c.map Prod.fst) (exclL ops.toList (c.map Prod.fst) m k) (ops.toList.take m) 0 fr rs (fun C vs f => some (C, vs, f)) = some (C, vals, fr') ∧ AllP C) 0 (heapsL σ c))
    (hs : stepsL (fun a j b => ∀ o v, ops.toList[j]? = some o → vals[j]? = some v → StepX cx n ops a b (guardKs ops.toList ops.toList) (restr ops.toList o (ovl (ops.toList.take j) (vals.take j) fr)) o v) σ c)
    (hl : (heapsL σ c).getLast (by simp [heapsL]) = σ2) (hk : S cx n B (.ops ops (ops.toList.drop m) [] :: k) Q fr' σ2) : S cx n B (.code (.region id ops true) :: k) Q fr σ := by
  intro r a w hi hf hd hx
  obtain ⟨c1, c2, c3, c4, c5⟩ := drawOk_spec hchk
  obtain ⟨k1, k2⟩ : vals.length = (ops.toList.take m).length ∧ fr' = ovl (ops.toList.take m) vals fr := by
    obtain ⟨⟨C, h1, _⟩, _⟩ := hrun
    obtain ⟨C', vals', fr'', e, k1, k2, k3⟩ := runZ_spec _ _ _ _ _ h1
    simp only [Option.some.injEq, Prod.mk.injEq] at e
    obtain ⟨rfl, rfl, rfl⟩ := e
    exact ⟨k1, k2⟩
  have hmN' := Nat.le_of_ble_eq_true hmN
  have hlen : vals.length = m := by rw [k1, List.length_take, Array.length_toList]; omega
  obtain ⟨hi1, hx1⟩ := hi.heap_eq (w' := { w with drawn := w.drawn + 1 }) rfl rfl rfl rfl
  have hf1 := hf.mono (hx1.grow hi)
  have nl : ∀ {j : Nat}, ¬ Listed (Array.replicate ops.size false) j := by
    intro j hj
    unfold Listed at hj
    rw [Array.getD_eq_getD_getElem?, Array.getElem?_replicate] at hj
    split at hj <;> simp at hj
  have nlF : ∀ {j : Nat}, (Array.replicate ops.size false).getD j false = false := by
    intro j
    cases hb : (Array.replicate ops.size false).getD j false with
    | false => rfl
    | true => exact absurd hb nl
  have h0 : hpL σ c (Array.replicate ops.size false) = σ := hpL_none _ _ _ fun e _ => nlF
  have hgs : ∀ (listed : Array Bool) (i j : Nat), i < listed.size → (listed.setIfInBounds i true).getD j false = if j = i then true else listed.getD j false := by
    intro listed i j hil
    simp only [Array.getD_eq_getD_getElem?, Array.getElem?_setIfInBounds]
    by_cases h : i = j
    · subst h; simp [hil]
    · rw [if_neg h, if_neg (Ne.symm h)]
  have hstep : ∀ (j : Nat) o v, j < m → ops.toList[j]? = some o → vals[j]? = some v → ∀ listed : Array Bool, listed.size = ops.size → ¬ Listed listed j → (∀ i, edge ops.toList j i = true → Listed listed i) → Down ops.toList listed → StepX cx n ops (hpL σ c listed) (hpL σ c (listed.setIfInBounds j true)) (guardKs ops.toList ops.toList) (restr ops.toList o (ovl (ops.toList.take j) (vals.take j) fr)) o v := by
    intro j o v hjm ho hv listed hsz hnl hed' hdn
    have hnlF : listed.getD j false = false := by
      cases hb : listed.getD j false with
      | false => rfl
      | true => exact absurd hb hnl
    by_cases hin : j ∈ c.map Prod.fst
    · exact hpL_step (listed' := listed.setIfInBounds j true) hnlF (by rw [hgs _ _ _ (by omega), if_pos rfl]) (fun i hne => by rw [hgs _ _ _ (by omega), if_neg hne]) (fun a b ha hab => hdn a b ha hab) (fun b hb => hed' b hb) σ c hed hs hin o v ho hv
    · rw [hpL_keep listed (listed.setIfInBounds j true) σ c fun e he => by rw [hgs _ _ _ (by omega), if_neg (fun h => hin (by rw [← h]; exact List.mem_map_of_mem he))]]
      obtain ⟨q, ⟨C, h1, hC⟩, hq1, hq2⟩ := hpL_at (listed := listed) (fun a b ha hab => hdn a b ha hab) 0 σ c hed hrun
      rw [Nat.zero_add] at h1
      obtain ⟨C', vals', fr'', e, _, _, k3⟩ := runZ_spec _ _ _ _ _ h1
      simp only [Option.some.injEq, Prod.mk.injEq] at e
      obtain ⟨rfl, rfl, rfl⟩ := e
      have h := k3 hC j o v (by rw [List.getElem?_take_of_lt hjm]; exact ho) hv (by rw [Nat.zero_add]; exact hin) (by
        rw [Nat.zero_add]
        intro hx
        obtain ⟨_, hx⟩ := List.mem_filter.1 hx
        rcases (Bool.or_eq_true _ _).mp hx with hx | hx
        · obtain ⟨p, hp1, hp2⟩ := List.any_eq_true.1 hx
          have := hdn p j (hq1 p hp1) hp2
          exact hnl this
        · obtain ⟨p, hp1, hp2⟩ := List.any_eq_true.1 hx
          have h5 : listed.getD p false = true := hed' p hp2
          rw [hq2 p hp1] at h5
          cases h5)
      rw [List.take_take, Nat.min_eq_left (by omega)] at h
      exact h
  refine wp_region_any hP ?_
  refine wpAny_frontG (σ' := σ2) (hp := hpL σ c) (cx := cx) (n := n) (B := B) (fr := fr) (m := m) (vals := vals) (K := guardKs ops.toList ops.toList) hmN' hlen c1 c2 c3 c4 c5 (fun listed hall => ?_) (fun j o hjm ho => ?_) hstep (fun r a w hi hf hd hx => ?_) ops.size _ r a _ (by simp) ?_ (fun j i hj => ?_) (fun j _ => ?_) ⟨hf1.size, fun j d v _ hj => ?_, fun t _ => hf1.get t, hf1.defs⟩ (by rw [h0]; exact hi1) hd (by rw [h0]; exact hx.trans hx1)
  · rw [hpL_all σ c listed fun e he => hall e.1 (blt_lt (List.all_eq_true.1 hjm e he))]
    exact hl
  · exact List.all_eq_true.1 hds o (List.mem_of_getElem? (by rw [List.getElem?_take_of_lt hjm]; exact ho))
  · rw [k2] at hk
    exact hk r a w hi hf hd hx
  · unfold unl; simp [List.countP_replicate]
  · exact absurd hj nl
  · exact nl
  · exact absurd hj nl
end
end Go.Ab
end
section
set_option linter.unusedVariables false
set_option linter.unusedSimpArgs false
namespace Go.Ab
open Go
section
variable {cx : Cx} {n : Nat} {B : Bs} {k : List AI} {Q : Post} {fr : Fr} {σ : Heap}
inductive Wv : AV → AV → Prop
  | refl {a} : Wv a a
  | nils {st fl sz} : Wv .nils (.sl st fl sz [])
  | sl {st fl st' fl' sz xs} (h1 : st' = true → st = true) (h2 : fl' = true → fl = true) : Wv (.sl st fl sz xs) (.sl st' fl' sz xs)
theorem Wv.rel {r : Rl} {w : World} {v : Value} {a a' : AV} (h : Wv a a') (hv : VRel r w v a) : VRel r w v a' := by
  cases h with
  | refl => exact hv
  | nils => cases hv; exact .sl0 (fun _ => rfl)
  | sl h1 h2 =>
    cases hv with
    | sl0 hf => exact .sl0 (fun h => hf (h2 h))
    | sl hn hc0 hf hI hS hsz f hc hv => exact .sl hn hc0 (fun h => hf (h2 h)) hI (fun h => hS (h1 h)) hsz f hc hv
theorem Wv.one {a a' : AV} (h : Wv a a') (ho : a.one = true) : a'.one = true := by
  cases h with
  | refl => exact ho
  | nils => rfl
  | sl _ _ => rfl
inductive Wvs : List AV → List AV → Prop
  | nil : Wvs [] []
  | cons {a b az bs} (h : Wv a b) (hs : Wvs az bs) : Wvs (a :: az) (b :: bs)
theorem Wvs.len {az bs : List AV} (h : Wvs az bs) : az.length = bs.length := by
  induction h with
  | nil => rfl
  | cons _ _ ih => simp [ih]
theorem Wvs.get {az bs : List AV} (h : Wvs az bs) : ∀ (i : Nat) (h1 : i < az.length) (h2 : i < bs.length), Wv az[i] bs[i] := by
  induction h with
  | nil => intro i h1; simp at h1
  | cons h hs ih =>
    intro i h1 h2
    cases i with
    | zero => exact h
    | succ i => exact ih i (by simpa using h1) (by simpa using h2)
end
end Go.Ab
end
section
set_option linter.unusedVariables false
set_option linter.unusedSimpArgs false
set_option maxRecDepth 20000
set_option maxHeartbeats 2000000
namespace Go.Proofs.Ytjaflkgfipaajaa
open Go Go.Ab
structure RS where
  tens : List Int
  creds : List Int
  turn : Bool
  jobs : List QJ
structure RL where
  r : Nat
  tid : Nat
  cid : Nat
  jid : Nat
  tv : Nat
  cv : Nat
  jv : Nat
def intC (l : List Int) : List AV := l.map fun z => .int .i64 z
theorem intC_len (l : List Int) : (intC l).length = l.length := by simp [intC]
theorem intC_one (l : List Int) : ∀ x ∈ intC l, x.one = true := fun x hx => by obtain ⟨z, _, rfl⟩ := List.mem_map.1 hx; rfl
theorem intC_at {l : List Int} {i : Nat} (h : i < l.length) : ((intC l).drop (offN 0 (mulN ((i : Int)).toNat 1)))[0]? = some (.int .i64 l[i]) := by
  rw [offN_eq, mulN_eq, Int.toNat_natCast, Nat.zero_add, Nat.mul_one, List.getElem?_drop, Nat.add_zero]
  simp [intC, h]
theorem intC_app (a b : List Int) : intC (a ++ b) = intC a ++ intC b := List.map_append
theorem jbC_f {l : List QJ} {k : Nat} (h : k < l.length) (f : Nat) (hf : f < 3) : ((jbC l).drop (offN 0 (mulN ((k : Int)).toNat 3) + f))[0]? = (l[k]).cells[f]? := by
  obtain ⟨h1, h2⟩ := jbC_at h
  rw [← List.drop_drop, List.getElem?_drop, Nat.add_zero, ← h1, List.getElem?_take_of_lt hf]
def rsC (quan : Int) (L : RL) (s : RS) (f : Bool) : List AV := [.int .i64 quan, .ms L.tid L.tv 0 s.tens.length 1 false, .ms L.cid L.cv 0 s.creds.length 1 false, .bool s.turn, .ms L.jid L.jv 0 s.jobs.length 3 f]
def rsB (quan : Int) (L : RL) (s : RS) : Box := .cells (rsC quan L s false) ⟨false, some 48⟩
structure RAt (σ : Heap) (L : RL) (quan : Int) (s : RS) : Prop where
  al : Alive σ
  rb : σ[L.r]? = some (0, some (rsB quan L s))
  tb : σ[L.tid]? = some (L.tv, some (.cells (intC s.tens) ⟨false, none⟩))
  cb : σ[L.cid]? = some (L.cv, some (.cells (intC s.creds) ⟨false, none⟩))
  jb : σ[L.jid]? = some (L.jv, some (.cells (jbC s.jobs) ⟨false, none⟩))
  ap : L.r ≠ L.tid ∧ L.r ≠ L.cid ∧ L.r ≠ L.jid ∧ L.tid ≠ L.cid ∧ L.tid ≠ L.jid ∧ L.cid ≠ L.jid
def OwnR (L : RL) (id : Nat) : Prop := id = L.r ∨ id = L.tid ∨ id = L.cid ∨ id = L.jid
theorem RAt.mono {σ σ' : Heap} {L : RL} {quan : Int} {s : RS} (h : RAt σ L quan s) (ha : Alive σ') (hk : ∀ id, OwnR L id → σ'[id]? = σ[id]?) : RAt σ' L quan s :=
  ⟨ha, (hk _ (.inl rfl)).trans h.rb, (hk _ (.inr (.inl rfl))).trans h.tb, (hk _ (.inr (.inr (.inl rfl)))).trans h.cb, (hk _ (.inr (.inr (.inr rfl)))).trans h.jb, h.ap⟩
theorem RAt.lt {σ : Heap} {L : RL} {quan : Int} {s : RS} (h : RAt σ L quan s) : ∀ id, OwnR L id → id < σ.length := fun id ho => by
  rcases ho with rfl | rfl | rfl | rfl
  · exact lt_of_get h.rb
  · exact lt_of_get h.tb
  · exact lt_of_get h.cb
  · exact lt_of_get h.jb
theorem RAt.app {σ : Heap} {L : RL} {quan : Int} {s : RS} (h : RAt σ L quan s) (v : Nat) (x : Box) : RAt (σ ++ [(v, some x)]) L quan s :=
  h.mono (h.al.app v x) fun id ho => List.getElem?_append_left (h.lt id ho)
def idxR (p : QJ → Bool) (l : List QJ) : Int := match l.findIdx? p with | some i => (i : Int) | none => -1
theorem find_none_upto {p : QJ → Bool} {l : List QJ} (h : ∀ k (hk : k < l.length), p l[k] = false) : l.findIdx? p = none := by
  rw [List.findIdx?_eq_none_iff]
  intro x hx
  obtain ⟨k, hk, rfl⟩ := List.getElem_of_mem hx
  exact h k hk
theorem find_at {p : QJ → Bool} {l : List QJ} {i : Nat} (hi : i < l.length) (hp : p l[i] = true) (h : ∀ k (hk : k < i), p (l[k]'(by omega)) = false) : l.findIdx? p = some i :=
  List.findIdx?_eq_some_iff_getElem.2 ⟨hi, hp, fun j hj => by simp [h j hj]⟩
theorem JobAt_ok (σ : Heap) (L : RL) (quan : Int) (s : RS) (name : Nm) (h : RAt σ L quan s) (hl : s.jobs.length ≤ 1000) :
    CallOk cx 27 [.ptr L.r 0 0, .str name] σ (fun o t => o = .ret (.int .i64 (idxR (fun j => j.name == name) s.jobs)) ∧ t = σ) :=
  callOk_intro (fun a w => Try.call27 a w) Try.func27 rfl Try.ntmps27 rfl fun B => by
    refine pao [] rfl ?_ ?_
    · (repeat' with_reducible apply AllP_cons) <;> try exact aC
    refine S_while (α := Nat) (fun i => [(0, .ptr L.r 0 0), (1, .str name), (5, .int .i64 (i : Nat))]) (fun _ => σ) (fun i => i ≤ s.jobs.length ∧ ∀ k (hk : k < s.jobs.length), k < i → (s.jobs[k].name == name) = false) (fun i => s.jobs.length - i) 0
      ⟨Nat.zero_le _, fun k hk h => by omega⟩ (.cons rfl (.cons rfl (.cons rfl (.nil _)))) rfl ?_
    rintro i ⟨hi, hno⟩
    by_cases hlt : i < s.jobs.length
    · have c1 : decide ((i : Int) < (s.jobs.length : Int)) = true := decide_eq_true (by omega)
      have hld := jbC_f hlt 1 (by decide)
      cases hb : s.jobs[i].name == name with
      | true =>
        refine pao [.v (.ms L.jid L.jv 0 s.jobs.length 3 false), .b true, .v (.ms L.jid L.jv 0 s.jobs.length 3 false), .v .top, .v (.str s.jobs[i].name), .b true] rfl ?_ ?_
        · (repeat' with_reducible apply AllP_cons) <;> try exact aC
          · exact OpSpec.loadP rfl rfl rfl rfl h.rb rfl
          · exact OpSpec.loadP rfl rfl rfl rfl h.rb rfl
          · exact OpSpec.loadE rfl rfl rfl rfl h.jb hld
        refine S_ret ⟨_, _, rfl, trivial, ?_, rfl⟩
        unfold idxR
        rw [find_at hlt hb (fun k hk => hno k (by omega) hk)]; rfl
      | false =>
        refine pao [.v (.ms L.jid L.jv 0 s.jobs.length 3 false), .b true, .v (.ms L.jid L.jv 0 s.jobs.length 3 false), .v .top, .v (.str s.jobs[i].name), .b false] rfl ?_ ?_
        · (repeat' with_reducible apply AllP_cons) <;> try exact aC
          · exact OpSpec.loadP rfl rfl rfl rfl h.rb rfl
          · exact OpSpec.loadP rfl rfl rfl rfl h.rb rfl
          · exact OpSpec.loadE rfl rfl rfl rfl h.jb hld
        refine S_round (i + 1) (by show s.jobs.length - (i + 1) < s.jobs.length - i; omega) ⟨hlt, fun k hk hki => ?_⟩ (.cons rfl (.cons rfl (.cons ?_ (.nil _)))) rfl
        · rcases Nat.lt_or_ge k i with h' | h'
          · exact hno k hk h'
          · obtain rfl : k = i := by omega
            exact hb
        · show AV.int .i64 (IntKind.i64.wrap ((i : Int) + 1)) = .int .i64 ((i + 1 : Nat) : Int); exact ai64 rfl (by omega)
    · have c1 : decide ((i : Int) < (s.jobs.length : Int)) = false := decide_eq_false (by omega)
      refine pao [.v (.ms L.jid L.jv 0 s.jobs.length 3 false), .b false] rfl ?_ ?_
      · (repeat' with_reducible apply AllP_cons) <;> try exact aC
        · exact OpSpec.loadP rfl rfl rfl rfl h.rb rfl
      refine S_ret ⟨_, _, rfl, trivial, ?_, rfl⟩
      unfold idxR
      rw [find_none_upto fun k hk => hno k hk (by omega)]; rfl
theorem First_ok (σ : Heap) (L : RL) (quan : Int) (s : RS) (ten : Int) (h : RAt σ L quan s) (hl : s.jobs.length ≤ 1000) :
    CallOk cx 28 [.ptr L.r 0 0, .int .i64 ten] σ (fun o t => o = .ret (.int .i64 (idxR (fun j => j.ten == ten) s.jobs)) ∧ t = σ) :=
  callOk_intro (fun a w => Try.call28 a w) Try.func28 rfl Try.ntmps28 rfl fun B => by
    refine pao [] rfl ?_ ?_
    · (repeat' with_reducible apply AllP_cons) <;> try exact aC
    refine S_while (α := Nat) (fun i => [(0, .ptr L.r 0 0), (1, .int .i64 ten), (5, .int .i64 (i : Nat))]) (fun _ => σ) (fun i => i ≤ s.jobs.length ∧ ∀ k (hk : k < s.jobs.length), k < i → (s.jobs[k].ten == ten) = false) (fun i => s.jobs.length - i) 0
      ⟨Nat.zero_le _, fun k hk h => by omega⟩ (.cons rfl (.cons rfl (.cons rfl (.nil _)))) rfl ?_
    rintro i ⟨hi, hno⟩
    by_cases hlt : i < s.jobs.length
    · have c1 : decide ((i : Int) < (s.jobs.length : Int)) = true := decide_eq_true (by omega)
      have hld := jbC_f hlt 0 (by decide)
      cases hb : s.jobs[i].ten == ten with
      | true =>
        refine pao [.v (.ms L.jid L.jv 0 s.jobs.length 3 false), .b true, .v (.ms L.jid L.jv 0 s.jobs.length 3 false), .v .top, .v (.int .i64 s.jobs[i].ten), .b true] rfl ?_ ?_
        · (repeat' with_reducible apply AllP_cons) <;> try exact aC
          · exact OpSpec.loadP rfl rfl rfl rfl h.rb rfl
          · exact OpSpec.loadP rfl rfl rfl rfl h.rb rfl
          · exact OpSpec.loadE rfl rfl rfl rfl h.jb hld
        refine S_ret ⟨_, _, rfl, trivial, ?_, rfl⟩
        unfold idxR
        rw [find_at hlt hb (fun k hk => hno k (by omega) hk)]; rfl
      | false =>
        refine pao [.v (.ms L.jid L.jv 0 s.jobs.length 3 false), .b true, .v (.ms L.jid L.jv 0 s.jobs.length 3 false), .v .top, .v (.int .i64 s.jobs[i].ten), .b false] rfl ?_ ?_
        · (repeat' with_reducible apply AllP_cons) <;> try exact aC
          · exact OpSpec.loadP rfl rfl rfl rfl h.rb rfl
          · exact OpSpec.loadP rfl rfl rfl rfl h.rb rfl
          · exact OpSpec.loadE rfl rfl rfl rfl h.jb hld
        refine S_round (i + 1) (by show s.jobs.length - (i + 1) < s.jobs.length - i; omega) ⟨hlt, fun k hk hki => ?_⟩ (.cons rfl (.cons rfl (.cons ?_ (.nil _)))) rfl
        · rcases Nat.lt_or_ge k i with h' | h'
          · exact hno k hk h'
          · obtain rfl : k = i := by omega
            exact hb
        · show AV.int .i64 (IntKind.i64.wrap ((i : Int) + 1)) = .int .i64 ((i + 1 : Nat) : Int); exact ai64 rfl (by omega)
    · have c1 : decide ((i : Int) < (s.jobs.length : Int)) = false := decide_eq_false (by omega)
      refine pao [.v (.ms L.jid L.jv 0 s.jobs.length 3 false), .b false] rfl ?_ ?_
      · (repeat' with_reducible apply AllP_cons) <;> try exact aC
        · exact OpSpec.loadP rfl rfl rfl rfl h.rb rfl
      refine S_ret ⟨_, _, rfl, trivial, ?_, rfl⟩
      unfold idxR
      rw [find_none_upto fun k hk => hno k hk (by omega)]; rfl
end Go.Proofs.Ytjaflkgfipaajaa
end
section
set_option linter.unusedVariables false
set_option linter.unusedSimpArgs false
namespace Go.Ab
open Go
theorem AllP_app {C D : List Prop} (h : AllP C) (hd : AllP D) : AllP (C ++ D) := by
  induction C with
  | nil => exact hd
  | cons p r ih => exact ⟨h.1, ih h.2⟩
section
variable {cx : Cx} {n : Nat} {B : Bs} {k : List AI} {Q : Post} {fr : Fr} {σ : Heap}
theorem OpSpec.storeX {o : Oper} {t : TypeId} {a x : Operand} {m id ver off : Nat} {cs : List AV} {gT : Option TypeId} {y : AV} {σ' : Heap} (ho : o.op = .store t a x) (hm : szOf cx.P t = some m) (hea : ev cx fr a = .eptr id ver off) (hx : ev cx fr x = y) (hyc : y.cells.length = m) (hy : allOne y.cells = true)
    (hσ : σ[id]? = some (ver, some (.cells cs ⟨false, gT⟩))) (hoff : off + m ≤ cs.length) (hσ' : σ' = σ.set id (ver, some (.cells (setRange cs off y.cells) ⟨false, gT⟩))) : OpSpec cx n fr σ o (.tup []) σ' := by
  subst hσ'
  refine OpSpec.store (C := [y.cells.length = m, allOne y.cells = true, ver = ver, off + m ≤ cs.length]) ?_ ⟨hyc, hy, rfl, hoff, trivial⟩
  rw [ho]
  simp only [storeA, hm, hea, hσ, hx]
theorem OpSpec.append0M {o : Oper} {s x : Operand} {t u : TypeId} {e sz by_ id ver off len : Nat} {fl : Bool} {y : AV} {C : List Prop} (ho : o.op = .call { callee := .builtin .append, args := #[s, x], argTypes := #[t, u] }) (hel : elemInfo cx.P t = some (e, sz, by_)) (hnt : notInt cx.P u = true)
    (hs : ev cx fr s = .ms id ver off len sz fl) (hx : ev cx fr x = y) (hy : aSrc sz y σ = some (C, 0, [])) (hC : AllP C) : OpSpec cx n fr σ o (.ms id ver off len sz fl) σ := by
  intro r ac w hi hf
  have h1 := ev_rel hi hf s
  have h2 := ev_rel hi hf x
  rw [hs] at h1
  rw [hx] at h2
  obtain ⟨dst, op, ty, pos, after, guard⟩ := o
  simp only at ho
  subst ho
  obtain ⟨i, z, hu, hinfo, hz, hz1, hz2, hz3⟩ := elemInfo_some hel
  obtain ⟨d, hd, hdk⟩ := notInt_some hnt
  obtain ⟨bs, hbs⟩ := run_len_call cx.P w ac.eval .append #[s, x] #[t, u] dst ty pos after guard
  have key : ∀ (a b : Value), VRel r w a (.ms id ver off len sz fl) → VRel r w b y → (Builtin.append_ #[t, u] ty #[a, b]).run cx.P w = .ok a w := by
    intro a b ha hb
    obtain ⟨hl1, hl2, news, hl3, hl4⟩ := aSrc_run hi hy hC hb
    have hnews : news = [] := List.eq_nil_of_length_eq_zero (by rw [hl3.1]; rfl)
    subst hnews
    cases a with
    | slice p n' cap =>
      have hcap : n' + 0 ≤ cap := by
        cases ha with
        | ms0 => exact Nat.le_refl 0
        | ms h hc hn hf => exact hn
      exact run_append_room' (P := cx.P) (w := w) (ty := ty) (base := p) (sLen := n') (sCap := cap) hu hd hdk hinfo hz2 hl1 hl4 hcap (w2 := w) (stO_nil _ _ _ _)
    | _ => cases ha
  refine ⟨r, w, ac.eval s, .inl ?_, h1, hi, Ext.refl _ _ _⟩
  rw [hbs]
  simp only [builtin, List.map_toArray, List.map_cons, List.map_nil]
  exact exec_v (key _ _ h1 h2)
theorem OpSpec.appendF {o : Oper} {s x : Operand} {t u : TypeId} {e sz by_ id ver off len m : Nat} {cs ys zs : List AV} {g : Tag} {y : AV} {C : List Prop} (ho : o.op = .call { callee := .builtin .append, args := #[s, x], argTypes := #[t, u] }) (hel : elemInfo cx.P t = some (e, sz, by_)) (hnt : notInt cx.P u = true)
    (hs : ev cx fr s = .ms id ver off len sz true) (hx : ev cx fr x = y) (hy : aSrc sz y σ = some (C, m, ys)) (hC : AllP C) (hy1 : ∀ z ∈ ys, z.one = true) (hm : m ≠ 0 ∨ len = 0) (hσ : Alive σ) (hb : σ[id]? = some (ver, some (.cells cs g))) (hl : off + len * sz ≤ cs.length)
    (hb1 : (len + m) * by_ ≤ 140737488355328) (hb2 : len + m ≤ 9223372036854775807) (hz : (cs.drop off).take (len * sz) ++ ys = zs) :
    OpSpec cx n fr σ o (.ms σ.length 0 0 (len + m) sz false) (σ ++ [(0, some (.cells zs ⟨false, tyU8 cx.P e⟩))]) := by
  subst hz
  obtain ⟨ro, ty⟩ := g
  refine OpSpec.aop (C := C ++ [∀ y ∈ ys, y.one = true, ver = ver, sz = sz, off + len * sz ≤ cs.length, m ≠ 0 ∨ len = 0, (len + m) * by_ ≤ 140737488355328, len + m ≤ 9223372036854775807]) ?_ (AllP_app hC ⟨hy1, rfl, rfl, hl, hm, hb1, hb2, trivial⟩)
  rw [ho]
  show aAppend cx.P t u (ev cx fr s) (ev cx fr x) σ = _
  rw [hs, hx]
  unfold aAppend
  rw [hel]
  simp only [hnt, cond_true, hy, hb, dropA_eq, hσ.alloc]
structure DelC (σ : Heap) (id ver i n : Nat) (cs : List AV) (sz : Nat) (id' ver' : Nat) (fl : Bool) (τ : Heap) : Prop where
  h : (i + 1 < n ∧ id' = σ.length ∧ ver' = 0 ∧ fl = false ∧ τ = [(0, some (.cells (cs.take (i * sz) ++ cs.drop ((i + 1) * sz)) ⟨false, none⟩))]) ∨ (i + 1 = n ∧ id' = id ∧ ver' = ver ∧ fl = true ∧ τ = [])
theorem DelC.ex (σ : Heap) (id ver : Nat) (cs : List AV) (sz : Nat) {i n : Nat} (h : i < n) : ∃ id' ver' fl τ, DelC σ id ver i n cs sz id' ver' fl τ := by
  by_cases h1 : i + 1 < n
  · exact ⟨_, _, _, _, ⟨.inl ⟨h1, rfl, rfl, rfl, rfl⟩⟩⟩
  · exact ⟨_, _, _, _, ⟨.inr ⟨by omega, rfl, rfl, rfl, rfl⟩⟩⟩
theorem DelC.alive {σ τ : Heap} {id ver i n sz id' ver' : Nat} {cs : List AV} {fl : Bool} (h : DelC σ id ver i n cs sz id' ver' fl τ) : ∀ e ∈ τ, ∃ x, e.2 = some x := by
  rcases h.h with ⟨_, _, _, _, rfl⟩ | ⟨_, _, _, _, rfl⟩
  · intro e he; rw [List.mem_singleton.1 he]; exact ⟨_, rfl⟩
  · intro e he; cases he
theorem DelC.place {σ τ : Heap} {id ver i n sz id' ver' : Nat} {cs : List AV} {fl : Bool} (h : DelC σ id ver i n cs sz id' ver' fl τ) : id' = id ∨ id' = σ.length := by
  rcases h.h with ⟨_, h1, _⟩ | ⟨_, h1, _⟩
  · exact .inr h1
  · exact .inl h1
theorem DelC.box {σ τ : Heap} {id ver i n sz id' ver' : Nat} {cs : List AV} {fl : Bool} (h : DelC σ id ver i n cs sz id' ver' fl τ) (hcs : cs.length = n * sz) (hσ : σ[id]? = some (ver, some (.cells cs ⟨false, none⟩))) :
    ∃ cs', (σ ++ τ)[id']? = some (ver', some (.cells cs' ⟨false, none⟩)) ∧ cs'.take ((n - 1) * sz) = cs.take (i * sz) ++ cs.drop ((i + 1) * sz) := by
  rcases h.h with ⟨hn, rfl, rfl, _, rfl⟩ | ⟨hn, rfl, rfl, _, rfl⟩
  · refine ⟨_, by simp, List.take_of_length_le ?_⟩
    rw [List.length_append, List.length_take, List.length_drop, hcs]
    have h1 : (i + 1) * sz + (n - (i + 1)) * sz = n * sz := by rw [← Nat.add_mul]; congr 1; omega
    have h2 : i * sz + (n - (i + 1)) * sz = (n - 1) * sz := by rw [← Nat.add_mul]; congr 1; omega
    have h3 : min (i * sz) (n * sz) ≤ i * sz := Nat.min_le_left ..
    omega
  · refine ⟨cs, by rw [List.append_nil]; exact hσ, ?_⟩
    subst hn
    rw [Nat.add_sub_cancel, List.drop_of_length_le (by omega), List.append_nil]
theorem OpSpec.delS {o : Oper} {s x : Operand} {t u : TypeId} {e sz by_ id ver i n' id' ver' : Nat} {cs : List AV} {fl f2 : Bool} {τ : Heap} {a b : AV} (hc : DelC σ id ver i n' cs sz id' ver' fl τ) (ho : o.op = .call { callee := .builtin .append, args := #[s, x], argTypes := #[t, u] }) (hel : elemInfo cx.P t = some (e, sz, by_)) (hnt : notInt cx.P u = true) (ht8 : tyU8 cx.P e = none)
    (hs : ev cx fr s = a) (ha : a = .ms id ver 0 i sz true) (hx : ev cx fr x = b) (hbb : b = .ms id ver ((i + 1) * sz) (n' - (i + 1)) sz f2) (hσ : Alive σ) (hb : σ[id]? = some (ver, some (.cells cs ⟨false, none⟩))) (hcs : cs.length = n' * sz) (hone : ∀ z ∈ cs, z.one = true) (hb1 : n' * by_ ≤ 140737488355328) (hb2 : n' ≤ 9223372036854775807) :
    OpSpec cx n fr σ o (.ms id' ver' 0 (n' - 1) sz fl) (σ ++ τ) := by
  have hbx : boxAt σ id = some (ver, cs, ⟨false, none⟩) := by simp [boxAt, hb]
  rcases hc.h with ⟨hn, rfl, rfl, rfl, rfl⟩ | ⟨hn, rfl, rfl, rfl, rfl⟩
  · have hsz : (i + 1) * sz + (n' - (i + 1)) * sz = cs.length := by rw [hcs, ← Nat.add_mul]; congr 1; omega
    have hsrc : aSrc sz (.ms id ver ((i + 1) * sz) (n' - (i + 1)) sz f2) σ = some ([ver = ver, sz = sz, (i + 1) * sz + (n' - (i + 1)) * sz ≤ cs.length], n' - (i + 1), cs.drop ((i + 1) * sz)) := by
      simp only [aSrc, hbx, dropA_eq]
      rw [List.take_of_length_le (by rw [List.length_drop]; omega)]
    have h := OpSpec.appendF (cx := cx) (n := n) (fr := fr) (σ := σ) (m := n' - (i + 1)) (cs := cs) (off := 0) (len := i) (y := b) (C := [ver = ver, sz = sz, (i + 1) * sz + (n' - (i + 1)) * sz ≤ cs.length]) (zs := cs.take (i * sz) ++ cs.drop ((i + 1) * sz)) ho hel hnt (hs.trans ha) hx (by rw [hbb]; exact hsrc) ⟨rfl, rfl, by omega, trivial⟩ (fun z hz => hone z (List.mem_of_mem_drop hz)) (.inl (by omega)) hσ hb (by
      have : i * sz ≤ (i + 1) * sz := Nat.mul_le_mul_right _ (by omega)
      omega) (by have : (i + (n' - (i + 1))) * by_ ≤ n' * by_ := Nat.mul_le_mul_right _ (by omega)
                 omega) (by omega) rfl
    rw [ht8, show i + (n' - (i + 1)) = n' - 1 by omega] at h
    exact h
  · subst hn
    have hsrc : aSrc sz (.ms id' ver' ((i + 1) * sz) (i + 1 - (i + 1)) sz f2) σ = some ([ver' = ver', sz = sz, (i + 1) * sz + (i + 1 - (i + 1)) * sz ≤ cs.length], 0, []) := by
      simp only [aSrc, hbx, dropA_eq, Nat.sub_self, Nat.zero_mul, List.take_zero]
    rw [List.append_nil, Nat.add_sub_cancel]
    exact OpSpec.append0M (y := b) (C := [ver' = ver', sz = sz, (i + 1) * sz + (i + 1 - (i + 1)) * sz ≤ cs.length]) ho hel hnt (hs.trans ha) hx (by rw [hbb]; exact hsrc) ⟨rfl, rfl, by rw [Nat.sub_self, Nat.zero_mul]; omega, trivial⟩
end
end Go.Ab
end
section
set_option linter.unusedVariables false
set_option linter.unusedSimpArgs false
set_option maxRecDepth 20000
set_option maxHeartbeats 2000000
namespace Go.Proofs.Ytjaflkgfipaajaa
open Go Go.Ab
def rTake (s : RS) (m : Nat) : RS := match s.jobs[m]? with
  | none => s
  | some j => if (s.jobs.eraseIdx m).findIdx? (fun x => x.ten == j.ten) = none then
      ⟨s.tens.eraseIdx (s.tens.idxOf j.ten), s.creds.eraseIdx (s.tens.idxOf j.ten), if s.tens.idxOf j.ten = 0 then false else s.turn, s.jobs.eraseIdx m⟩
    else ⟨s.tens, s.creds, s.turn, s.jobs.eraseIdx m⟩
theorem intC_erase (l : List Int) {k : Nat} : (intC l).take (k * 1) ++ (intC l).drop ((k + 1) * 1) = intC (l.eraseIdx k) := by
  rw [Nat.mul_one, Nat.mul_one, List.eraseIdx_eq_take_drop_succ, intC_app]
  unfold intC
  rw [List.map_take, List.map_drop]
theorem RAt.toJ {σ : Heap} {L : RL} {quan : Int} {s : RS} (h : RAt σ L quan s) {τ : Heap} {id' ver' : Nat} {js : List QJ} (hτ : Alive τ) (hp : id' = L.jid ∨ id' = σ.length) {L' : RL} (hL : L' = ⟨L.r, L.tid, L.cid, id', L.tv, L.cv, ver'⟩) {x : Nat × Option Box} (hx : (σ ++ τ)[id']? = some x) :
    RAt (((σ ++ τ).set L.r (0, some (rsB quan L' ⟨s.tens, s.creds, s.turn, js⟩))).set id' (ver', some (.cells (jbC js) ⟨false, none⟩))) L' quan ⟨s.tens, s.creds, s.turn, js⟩ := by
  subst hL
  obtain ⟨a1, a2, a3, a4, a5, a6⟩ := h.ap
  have l1 := lt_of_get h.rb
  have l2 := lt_of_get h.tb
  have l3 := lt_of_get h.cb
  have n1 : L.r ≠ id' := by rcases hp with rfl | rfl <;> omega
  have n2 : L.tid ≠ id' := by rcases hp with rfl | rfl <;> omega
  have n3 : L.cid ≠ id' := by rcases hp with rfl | rfl <;> omega
  refine ⟨Alive.set (Alive.set (alive_apps h.al hτ) _ _ _) _ _ _, ?_, ?_, ?_, ?_, a1, a2, n1, a4, n2, n3⟩
  · show ((((σ ++ τ).set L.r _).set id' _)[L.r]?) = _
    rw [set_ne n1, set_eq (apps_get h.rb)]
  · show ((((σ ++ τ).set L.r _).set id' _)[L.tid]?) = _
    rw [set_ne n2, set_ne (Ne.symm a1)]; exact apps_get h.tb
  · show ((((σ ++ τ).set L.r _).set id' _)[L.cid]?) = _
    rw [set_ne n3, set_ne (Ne.symm a2)]; exact apps_get h.cb
  · show ((((σ ++ τ).set L.r _).set id' _)[id']?) = _
    have : ((σ ++ τ).set L.r (0, some (rsB quan ⟨L.r, L.tid, L.cid, id', L.tv, L.cv, ver'⟩ ⟨s.tens, s.creds, s.turn, js⟩)))[id']? = some x := by rw [set_ne (Ne.symm n1)]; exact hx
    rw [set_eq this]
theorem RAt.toT {σ : Heap} {L : RL} {quan : Int} {s : RS} (h : RAt σ L quan s) {τ : Heap} {id' ver' : Nat} {ts : List Int} (hτ : Alive τ) (hp : id' = L.tid ∨ id' = σ.length) {L' : RL} (hL : L' = ⟨L.r, id', L.cid, L.jid, ver', L.cv, L.jv⟩) {x : Nat × Option Box} (hx : (σ ++ τ)[id']? = some x) :
    RAt (((σ ++ τ).set L.r (0, some (rsB quan L' ⟨ts, s.creds, s.turn, s.jobs⟩))).set id' (ver', some (.cells (intC ts) ⟨false, none⟩))) L' quan ⟨ts, s.creds, s.turn, s.jobs⟩ := by
  subst hL
  obtain ⟨a1, a2, a3, a4, a5, a6⟩ := h.ap
  have l1 := lt_of_get h.rb
  have l2 := lt_of_get h.jb
  have l3 := lt_of_get h.cb
  have n1 : L.r ≠ id' := by rcases hp with rfl | rfl <;> omega
  have n2 : id' ≠ L.jid := by rcases hp with rfl | rfl <;> omega
  have n3 : id' ≠ L.cid := by rcases hp with rfl | rfl <;> omega
  refine ⟨Alive.set (Alive.set (alive_apps h.al hτ) _ _ _) _ _ _, ?_, ?_, ?_, ?_, n1, a2, a3, n3, n2, a6⟩
  · show ((((σ ++ τ).set L.r _).set id' _)[L.r]?) = _
    rw [set_ne n1, set_eq (apps_get h.rb)]
  · show ((((σ ++ τ).set L.r _).set id' _)[id']?) = _
    have : ((σ ++ τ).set L.r (0, some (rsB quan ⟨L.r, id', L.cid, L.jid, ver', L.cv, L.jv⟩ ⟨ts, s.creds, s.turn, s.jobs⟩)))[id']? = some x := by rw [set_ne (Ne.symm n1)]; exact hx
    rw [set_eq this]
  · show ((((σ ++ τ).set L.r _).set id' _)[L.cid]?) = _
    rw [set_ne (Ne.symm n3), set_ne (Ne.symm a2)]; exact apps_get h.cb
  · show ((((σ ++ τ).set L.r _).set id' _)[L.jid]?) = _
    rw [set_ne (Ne.symm n2), set_ne (Ne.symm a3)]; exact apps_get h.jb
theorem RAt.toC {σ : Heap} {L : RL} {quan : Int} {s : RS} (h : RAt σ L quan s) {τ : Heap} {id' ver' : Nat} {cs : List Int} (hτ : Alive τ) (hp : id' = L.cid ∨ id' = σ.length) {L' : RL} (hL : L' = ⟨L.r, L.tid, id', L.jid, L.tv, ver', L.jv⟩) {x : Nat × Option Box} (hx : (σ ++ τ)[id']? = some x) :
    RAt (((σ ++ τ).set L.r (0, some (rsB quan L' ⟨s.tens, cs, s.turn, s.jobs⟩))).set id' (ver', some (.cells (intC cs) ⟨false, none⟩))) L' quan ⟨s.tens, cs, s.turn, s.jobs⟩ := by
  subst hL
  obtain ⟨a1, a2, a3, a4, a5, a6⟩ := h.ap
  have l1 := lt_of_get h.rb
  have l2 := lt_of_get h.jb
  have l3 := lt_of_get h.tb
  have n1 : L.r ≠ id' := by rcases hp with rfl | rfl <;> omega
  have n2 : id' ≠ L.jid := by rcases hp with rfl | rfl <;> omega
  have n3 : L.tid ≠ id' := by rcases hp with rfl | rfl <;> omega
  refine ⟨Alive.set (Alive.set (alive_apps h.al hτ) _ _ _) _ _ _, ?_, ?_, ?_, ?_, a1, n1, a3, n3, a5, n2⟩
  · show ((((σ ++ τ).set L.r _).set id' _)[L.r]?) = _
    rw [set_ne n1, set_eq (apps_get h.rb)]
  · show ((((σ ++ τ).set L.r _).set id' _)[L.tid]?) = _
    rw [set_ne n3, set_ne (Ne.symm a1)]; exact apps_get h.tb
  · show ((((σ ++ τ).set L.r _).set id' _)[id']?) = _
    have : ((σ ++ τ).set L.r (0, some (rsB quan ⟨L.r, L.tid, id', L.jid, L.tv, ver', L.jv⟩ ⟨s.tens, cs, s.turn, s.jobs⟩)))[id']? = some x := by rw [set_ne (Ne.symm n1)]; exact hx
    rw [set_eq this]
  · show ((((σ ++ τ).set L.r _).set id' _)[L.jid]?) = _
    rw [set_ne (Ne.symm n2), set_ne (Ne.symm a3)]; exact apps_get h.jb
theorem RAt.setTurn {σ : Heap} {L : RL} {quan : Int} {s : RS} (h : RAt σ L quan s) (b : Bool) : RAt (σ.set L.r (0, some (rsB quan L ⟨s.tens, s.creds, b, s.jobs⟩))) L quan ⟨s.tens, s.creds, b, s.jobs⟩ := by
  obtain ⟨a1, a2, a3, a4, a5, a6⟩ := h.ap
  exact ⟨Alive.set h.al _ _ _, set_eq h.rb, (set_ne (Ne.symm a1)).trans h.tb, (set_ne (Ne.symm a2)).trans h.cb, (set_ne (Ne.symm a3)).trans h.jb, h.ap⟩
theorem RAt.setC {σ : Heap} {L : RL} {quan : Int} {s : RS} (h : RAt σ L quan s) {cs : List Int} (hl : cs.length = s.creds.length) : RAt (σ.set L.cid (L.cv, some (.cells (intC cs) ⟨false, none⟩))) L quan ⟨s.tens, cs, s.turn, s.jobs⟩ := by
  obtain ⟨a1, a2, a3, a4, a5, a6⟩ := h.ap
  refine ⟨Alive.set h.al _ _ _, ?_, (set_ne a4).trans h.tb, set_eq h.cb, (set_ne (Ne.symm a6)).trans h.jb, h.ap⟩
  rw [set_ne a2, h.rb]
  unfold rsB rsC
  rw [hl]
theorem keepO {σ : Heap} {L : RL} {id : Nat} {x : Nat × Option Box} (h : OwnR L id) : QKeep σ (σ.set id x) (OwnR L) (OwnR L) :=
  ⟨by simp, fun j hj hno => set_ne fun e => hno (e ▸ h), fun j h => .inl h⟩
theorem keepS {σ τ : Heap} {L L' : RL} {id' r : Nat} {x y : Nat × Option Box} (hr : OwnR L r) (hp : OwnR L id' ∨ id' = σ.length) (hL : ∀ id, OwnR L' id → OwnR L id ∨ id = id') : QKeep σ (((σ ++ τ).set r x).set id' y) (OwnR L) (OwnR L') := by
  refine ⟨by simp, fun id hid hno => ?_, fun id ho => ?_⟩
  · have n1 : id ≠ id' := by
      rintro rfl
      rcases hp with h | h
      · exact hno h
      · omega
    have n2 : id ≠ r := by rintro rfl; exact hno hr
    rw [set_ne n1, set_ne n2, List.getElem?_append_left hid]
  · rcases hL id ho with h | rfl
    · exact .inl h
    · rcases hp with h | h
      · exact .inl h
      · exact .inr (by omega)
theorem nodup_inj {α : Type} {l : List α} (h : l.Nodup) {i k : Nat} (hi : i < l.length) (hk : k < l.length) (e : l[i] = l[k]) : i = k := by
  have hp := List.pairwise_iff_getElem.1 h
  rcases Nat.lt_trichotomy i k with h' | h' | h'
  · exact absurd e (hp i k hi hk h')
  · exact h'
  · exact absurd e.symm (hp k i hk hi h')
theorem delA (id ver m n sz : Nat) : AV.ms id ver (0 + (Option.getD none (0 : Int)).toNat * sz) ((Option.getD (some (m : Int)) (n : Int)).toNat - (Option.getD none (0 : Int)).toNat) sz true = .ms id ver 0 m sz true := by simp
theorem delB (id ver m n sz : Nat) (h : m < 1000000) : AV.ms id ver (0 + (Option.getD (some (IntKind.i64.wrap ((m : Int) + 1))) (0 : Int)).toNat * sz) ((Option.getD none (n : Int)).toNat - (Option.getD (some (IntKind.i64.wrap ((m : Int) + 1))) (0 : Int)).toNat) sz false = .ms id ver ((m + 1) * sz) (n - (m + 1)) sz false := by
  rw [show IntKind.i64.wrap ((m : Int) + 1) = ((m + 1 : Nat) : Int) from w64 rfl (by omega)]
  simp
theorem rtake_ok (σ : Heap) (L : RL) (quan : Int) (s : RS) (m : Nat) (h : RAt σ L quan s) (hm : m < s.jobs.length) (hjl : s.jobs.length ≤ 200) (hcl : s.creds.length = s.tens.length) (htl : s.tens.length ≤ 200) (hnd : s.tens.Nodup) (hmem : s.jobs[m].ten ∈ s.tens) :
    CallOk cx 29 [.ptr L.r 0 0, .int .i64 (m : Nat)] σ (fun o t => o = .ret (jobA s.jobs[m]) ∧ ∃ L', RAt t L' quan (rTake s m) ∧ L'.r = L.r ∧ QKeep σ t (OwnR L) (OwnR L')) :=
  callOk_intro (fun a w => Try.call29 a w) Try.func29 rfl Try.ntmps29 rfl fun B => by
    obtain ⟨j, hj⟩ : ∃ j, j = s.jobs[m] := ⟨_, rfl⟩
    rw [← hj] at hmem ⊢
    obtain ⟨z0, hz0⟩ : ∃ z0 : Nat × Option Box, z0 = (0, some (.cells [.int .i64 0, .str [], .int .i64 0] ⟨false, some 34⟩)) := ⟨_, rfl⟩
    obtain ⟨zj, hzj⟩ : ∃ zj : Nat × Option Box, zj = (0, some (.cells j.cells ⟨false, some 34⟩)) := ⟨_, rfl⟩
    have h1 : RAt (σ ++ [z0]) L quan s := by rw [hz0]; exact h.app _ _
    have h2 : RAt (σ ++ [z0] ++ [zj]) L quan s := by rw [hzj]; exact h1.app _ _
    have hl1 : (σ ++ [z0]).length = σ.length + 1 := by simp
    have hl2 : (σ ++ [z0] ++ [zj]).length = σ.length + 2 := by simp
    obtain ⟨e1, e2⟩ := jbC_at hm
    refine pao [.f (.ptr σ.length 0 0) (fun t => t ++ [z0]), .v (.ms L.jid L.jv 0 s.jobs.length 3 false), .v .top, .v (jobA j), .f (.ptr (σ.length + 1) 0 0) (fun t => t ++ [z0]), .f (.tup []) (fun _ => σ ++ [z0] ++ [zj])] rfl ?_ ?_
    · (repeat' with_reducible apply AllP_cons) <;> try exact aC
      · rw [hz0]; exact OpSpec.allocE rfl rfl rfl rfl h.al
      · exact OpSpec.loadP rfl rfl rfl rfl h1.rb rfl
      · refine OpSpec.loadEA (cs := jbC s.jobs) rfl rfl rfl rfl h1.jb e2 ?_
        rw [hj]
        exact congrArg AV.agg e1.symm
      · rw [← hl1]; rw [hz0]; exact OpSpec.allocE rfl rfl rfl rfl (by have := h1.al; rw [hz0] at this; exact this)
      · refine OpSpec.storeP (id := σ.length + 1) (gT := some 34) (cs := [.int .i64 0, .str [], .int .i64 0]) (y := jobA j) rfl rfl rfl rfl rfl rfl ?_ (lble rfl) ?_
        · rw [← hl1, app_last, hz0]
        · rw [← hl1, List.set_append_right _ _ (Nat.le_refl _), Nat.sub_self, hzj]; rfl
    refine S_heap (σ ++ [z0] ++ [zj]) rfl ?_
    obtain ⟨σ2, hσ2⟩ : ∃ σ2, σ2 = σ ++ [z0] ++ [zj] := ⟨_, rfl⟩
    rw [← hσ2] at h2 hl2 ⊢
    have hb0 : σ2[σ.length]? = some z0 := by rw [hσ2, List.getElem?_append_left (by simp)]; exact app_last
    have hb1 : σ2[σ.length + 1]? = some zj := by rw [hσ2, ← hl1]; exact app_last
    obtain ⟨id', ver', fl', τ, hdc⟩ := DelC.ex σ2 L.jid L.jv (jbC s.jobs) 3 hm
    obtain ⟨cs', hcs1, hcs2⟩ := hdc.box (jbC_len _) h2.jb
    rw [jbC_erase _ hm] at hcs2
    refine S_drawOC (σ2 ++ τ) 15 16 [.ms L.jid L.jv 0 s.jobs.length 3 false, .ms L.jid L.jv 0 s.jobs.length 3 false, .ms id' ver' 0 (s.jobs.length - 1) 3 fl'] rfl rfl rfl rfl (fun t => rfl) (fun t ht => ?_) (fun o v ho hv => ?_) ?_
    · have hlr : t[L.r]? = some (0, some (rsB quan L s)) := by
        rcases ht with rfl | rfl
        · exact h2.rb
        · exact apps_get h2.rb
      (repeat' with_reducible apply AllP_cons) <;> try exact aC
      · exact OpSpec.loadP rfl rfl rfl rfl hlr rfl
      · exact OpSpec.loadP rfl rfl rfl rfl hlr rfl
    · cases ho; cases hv
      exact specC_step rfl rfl (OpSpec.delS (cs := jbC s.jobs) (f2 := false) hdc rfl rfl rfl rfl rfl (delA (n := s.jobs.length) ..) rfl (delB _ _ _ _ _ (by omega)) h2.al h2.jb (jbC_len _) (jbC_one _) (by show s.jobs.length * 32 ≤ _; omega) (by omega))
    refine S_unfull (t := 29) rfl ⟨.skip, _, .inr ⟨_, _, _, rfl⟩⟩ ?_
    obtain ⟨js, hjs⟩ : ∃ js, js = s.jobs.eraseIdx m := ⟨_, rfl⟩
    have hjsl : js.length = s.jobs.length - 1 := by rw [hjs, List.length_eraseIdx_of_lt hm]
    obtain ⟨L2, hL2⟩ : ∃ L2 : RL, L2 = ⟨L.r, L.tid, L.cid, id', L.tv, L.cv, ver'⟩ := ⟨_, rfl⟩
    obtain ⟨R2, hR2⟩ : ∃ R2 : Nat × Option Box, R2 = (0, some (rsB quan L2 ⟨s.tens, s.creds, s.turn, js⟩)) := ⟨_, rfl⟩
    have h3 := h2.toJ (js := js) hdc.alive hdc.place hL2 hcs1
    have hk3 : QKeep σ2 (((σ2 ++ τ).set L.r R2).set id' (ver', some (.cells (jbC js) ⟨false, none⟩))) (OwnR L) (OwnR L2) := keepS (.inl rfl) (by rcases hdc.place with h' | h'; exact .inl (.inr (.inr (.inr h'))); exact .inr h') fun id ho => by
      rw [hL2] at ho
      rcases ho with h' | h' | h' | h'
      · exact .inl (.inl h')
      · exact .inl (.inr (.inl h'))
      · exact .inl (.inr (.inr (.inl h')))
      · exact .inr h'
    rw [← hR2] at h3
    refine pao [.f (.tup []) (fun t => t.set L.r R2), .s] rfl ?_ ?_
    · (repeat' with_reducible apply AllP_cons) <;> try exact aC
      refine OpSpec.storeP (id := L.r) (gT := some 48) (cs := rsC quan L s false) (y := .ms id' ver' 0 (s.jobs.length - 1) 3 false) rfl rfl rfl rfl rfl rfl (apps_get h2.rb) (lble rfl) ?_
      rw [hR2, hL2, ← hjsl]; rfl
    have n1 : L.r ≠ id' := by
      have := lt_of_get h2.rb
      rcases hdc.place with h' | h'
      · rw [h']; exact h.ap.2.2.1
      · omega
    have hcx : ((σ2 ++ τ).set L.r R2)[id']? = some (ver', some (.cells cs' ⟨false, none⟩)) := by rw [set_ne (Ne.symm n1)]; exact hcs1
    refine S_cut ((s.jobs.length - 1) * 3) hcx ⟨.skip, _, .inr ⟨_, _, _, rfl⟩⟩ ?_
    rw [hcs2, ← hjs]
    obtain ⟨σ3, hσ3⟩ : ∃ σ3, σ3 = ((σ2 ++ τ).set L.r R2).set id' (ver', some (.cells (jbC js) ⟨false, none⟩)) := ⟨_, rfl⟩
    rw [← hσ3] at h3 hk3 ⊢
    have hk2 : QKeep σ σ2 (OwnR L) (OwnR L) := by
      rw [hσ2]
      exact QKeep.app.trans QKeep.app
    have hr2 : L2.r = L.r := by rw [hL2]
    have hno0 : ¬ OwnR L σ.length := fun ho => by have := h.lt _ ho; omega
    have hno1 : ¬ OwnR L (σ.length + 1) := fun ho => by have := h.lt _ ho; omega
    have hz3 : σ3[σ.length]? = some z0 := by rw [hk3.same _ (by omega) hno0]; exact hb0
    have hy3 : σ3[σ.length + 1]? = some zj := by rw [hk3.same _ (by omega) hno1]; exact hb1
    have hF := First_ok σ3 L2 quan _ j.ten h3 (by show js.length ≤ 1000; omega)
    rw [hr2] at hF
    refine' S_shareO (ι := Heap × RL) (fun _ => [(4, .ptr σ.length 0 0), (5, .ptr (σ.length + 1) 0 0)]) (fun u => u.1)
      (fun u => RAt u.1 u.2 quan (rTake s m) ∧ u.2.r = L.r ∧ QKeep σ2 u.1 (OwnR L) (OwnR u.2) ∧ u.1[σ.length]? = some z0 ∧ u.1[σ.length + 1]? = some zj) ?main ?rest
    case main =>
      intro hsh
      have hsj : s.jobs[m]? = some j := by rw [hj]; exact List.getElem?_eq_getElem hm
      by_cases hfi : js.findIdx? (fun x => x.ten == j.ten) = none
      · have hix : idxR (fun x => x.ten == j.ten) js = -1 := by unfold idxR; rw [hfi]
        have hix2 : decide (idxR (fun x => x.ten == j.ten) js < 0) = true := by rw [hix]; rfl
        obtain ⟨k, hk⟩ : ∃ k, k = s.tens.idxOf j.ten := ⟨_, rfl⟩
        have hkl : k < s.tens.length := by rw [hk]; exact List.idxOf_lt_length_of_mem hmem
        have hkt : s.tens[k] = j.ten := by simp only [hk]; exact List.getElem_idxOf _
        obtain ⟨sJ, hsJ⟩ : ∃ sJ : RS, sJ = ⟨s.tens, s.creds, s.turn, js⟩ := ⟨_, rfl⟩
        obtain ⟨sE, hsE⟩ : ∃ sE : RS, sE = ⟨s.tens.eraseIdx k, s.creds.eraseIdx k, if k = 0 then false else s.turn, js⟩ := ⟨_, rfl⟩
        have hrt : rTake s m = sE := by unfold rTake; rw [hsj]; simp only; rw [← hjs, if_pos hfi, ← hk, hsE]
        rw [← hsJ] at h3
        refine pao [.v (.int .i64 j.ten), .k (.int .i64 (idxR (fun x => x.ten == j.ten) js)), .b true] rfl ?_ ?_
        · (repeat' with_reducible apply AllP_cons) <;> try exact aC
          · exact OpSpec.loadP rfl rfl rfl rfl (by rw [hy3, hzj]) rfl
        refine S_while (α := (Heap × RL) × Bool × Nat) (fun u => [(0, .ptr L.r 0 0), (4, .ptr σ.length 0 0), (5, .ptr (σ.length + 1) 0 0), (6, .int .i64 (u.2.2 : Nat))]) (fun u => u.1.1)
          (fun u => RAt u.1.1 u.1.2 quan (if u.2.1 = true then sE else sJ) ∧ u.1.2.r = L.r ∧ QKeep σ2 u.1.1 (OwnR L) (OwnR u.1.2) ∧ u.1.1[σ.length]? = some z0 ∧ u.1.1[σ.length + 1]? = some zj ∧ (u.2.1 = false → u.2.2 ≤ k)) (fun u => (if u.2.1 = true then s.tens.length - 1 else s.tens.length) - u.2.2) ((σ3, L2), false, 0)
          ⟨h3, hr2, hk3, hz3, hy3, fun _ => Nat.zero_le _⟩ (.cons rfl (.cons rfl (.cons rfl (.cons rfl (.nil _))))) rfl ?_
        rintro ⟨⟨σ4, L4⟩, d, i⟩ ⟨h4, hr4, hk4, hz4, hy4, hd⟩
        simp only at h4 hr4 hk4 hz4 hy4 hd
        cases d with
        | true =>
          have h4 : RAt σ4 L4 quan sE := h4
          have htl4 : sE.tens.length = s.tens.length - 1 := by rw [hsE]; exact List.length_eraseIdx_of_lt hkl
          by_cases hlt : i < sE.tens.length
          · have c1 : decide ((i : Int) < (sE.tens.length : Int)) = true := decide_eq_true (by omega)
            have hne : (sE.tens[i] == j.ten) = false := by
              have hmm : sE.tens[i] ∈ s.tens.eraseIdx k := by
                have := List.getElem_mem hlt
                simp only [hsE] at this ⊢
                exact this
              have : j.ten ∉ s.tens.eraseIdx k := by
                rw [← hkt]
                intro hm'
                have := (getErase hkl).nodup_iff.2 hnd
                exact (List.nodup_cons.1 this).1 hm'
              exact beq_false_of_ne fun e => this (by rw [← e]; exact hmm)
            refine pao [.v (.ms L4.tid L4.tv 0 sE.tens.length 1 false), .b true] rfl ?_ ?_
            · (repeat' with_reducible apply AllP_cons) <;> try exact aC
              · exact OpSpec.loadP rfl rfl rfl (by rw [← hr4]; rfl) h4.rb rfl
            refine S_drawO 10 [.ms L4.tid L4.tv 0 sE.tens.length 1 false, .top, .int .i64 sE.tens[i], .int .i64 j.ten] rfl rfl rfl rfl ?_ ?_
            · (repeat' with_reducible apply AllP_cons) <;> try exact aC
              · exact OpSpec.loadP rfl rfl rfl (by rw [← hr4]; rfl) h4.rb rfl
              · exact OpSpec.loadE rfl rfl rfl rfl h4.tb (intC_at hlt)
              · exact OpSpec.loadP rfl rfl rfl rfl (by rw [hy4, hzj]) rfl
            refine pao [.b false] rfl ?_ ?_
            · (repeat' with_reducible apply AllP_cons) <;> try exact aC
            refine S_round ((σ4, L4), true, i + 1) (by show (s.tens.length - 1) - (i + 1) < (s.tens.length - 1) - i; omega) ⟨h4, hr4, hk4, hz4, hy4, fun h => by cases h⟩ (.cons rfl (.cons rfl (.cons rfl (.cons ?_ (.nil _))))) rfl
            · show AV.int .i64 (IntKind.i64.wrap ((i : Int) + 1)) = .int .i64 ((i + 1 : Nat) : Int); exact ai64 rfl (by omega)
          · have c1 : decide ((i : Int) < (sE.tens.length : Int)) = false := decide_eq_false (by omega)
            refine pao [.v (.ms L4.tid L4.tv 0 sE.tens.length 1 false), .b false, .s] rfl ?_ ?_
            · (repeat' with_reducible apply AllP_cons) <;> try exact aC
              · exact OpSpec.loadP rfl rfl rfl (by rw [← hr4]; rfl) h4.rb rfl
            exact hsh (σ4, L4) _ ⟨by rw [hrt]; exact h4, hr4, hk4, hz4, hy4⟩ (.cons rfl (.cons rfl (.nil _)))
        | false =>
          have h4 : RAt σ4 L4 quan sJ := h4
          have hd := hd rfl
          have hst : sJ.tens = s.tens := by rw [hsJ]
          have hlt : i < s.tens.length := by omega
          have hlt' : i < sJ.tens.length := by rw [hst]; exact hlt
          have c1 : decide ((i : Int) < (sJ.tens.length : Int)) = true := decide_eq_true (by rw [hst]; omega)
          refine pao [.v (.ms L4.tid L4.tv 0 sJ.tens.length 1 false), .b true] rfl ?_ ?_
          · (repeat' with_reducible apply AllP_cons) <;> try exact aC
            · exact OpSpec.loadP rfl rfl rfl (by rw [← hr4]; rfl) h4.rb rfl
          refine S_drawO 10 [.ms L4.tid L4.tv 0 sJ.tens.length 1 false, .top, .int .i64 s.tens[i], .int .i64 j.ten] rfl rfl rfl rfl ?_ ?_
          · (repeat' with_reducible apply AllP_cons) <;> try exact aC
            · exact OpSpec.loadP rfl rfl rfl (by rw [← hr4]; rfl) h4.rb rfl
            · have := h4.tb
              rw [hst] at this
              exact OpSpec.loadE rfl rfl rfl rfl this (intC_at hlt)
            · exact OpSpec.loadP rfl rfl rfl rfl (by rw [hy4, hzj]) rfl
          by_cases hik : i = k
          · subst hik
            have c2 : (s.tens[i] == j.ten) = true := by rw [hkt]; simp
            refine' S_shareH (ι := Heap) (fun _ => [(0, .ptr L.r 0 0), (4, .ptr σ.length 0 0), (5, .ptr (σ.length + 1) 0 0), (6, .int .i64 (i : Nat))]) (fun u => u)
              (fun u => RAt u L4 quan ⟨s.tens, s.creds, sE.turn, js⟩ ∧ QKeep σ2 u (OwnR L) (OwnR L4) ∧ u[σ.length]? = some z0 ∧ u[σ.length + 1]? = some zj) ?main2 ?rest2
            case main2 =>
              intro hsh2
              by_cases hi0 : i = 0
              · have c3 : ((i : Int) == 0) = true := by rw [hi0]; rfl
                have htE : sE.turn = false := by rw [hsE]; simp [hi0]
                obtain ⟨R4, hR4⟩ : ∃ R4 : Nat × Option Box, R4 = (0, some (rsB quan L4 ⟨s.tens, s.creds, false, js⟩)) := ⟨_, rfl⟩
                refine pao [.b true, .b true, .f (.tup []) (fun t => t.set L.r R4)] rfl ?_ ?_
                · (repeat' with_reducible apply AllP_cons) <;> try exact aC
                  refine OpSpec.storeP (id := L.r) (gT := some 48) (cs := rsC quan L4 sJ false) (y := .bool false) rfl rfl rfl rfl rfl rfl (by rw [← hr4]; exact h4.rb) (lble rfl) ?_
                  rw [hR4, hsJ]; rfl
                refine hsh2 (σ4.set L.r R4) _ ⟨?_, ?_, ?_, ?_⟩ (.cons rfl (.cons rfl (.cons rfl (.cons rfl (.nil _)))))
                · rw [htE, hR4, ← hr4]
                  have := h4.setTurn false
                  rw [hsJ] at this
                  exact this
                · exact hk4.trans (keepO (.inl hr4.symm))
                · rw [set_ne (fun e => hno0 (.inl e))]; exact hz4
                · rw [set_ne (fun e => hno1 (.inl e))]; exact hy4
              · have c3 : ((i : Int) == 0) = false := beq_false_of_ne (by omega)
                have htE : sE.turn = s.turn := by rw [hsE]; simp [hi0]
                refine pao [.b true, .b false] rfl ?_ ?_
                · (repeat' with_reducible apply AllP_cons) <;> try exact aC
                exact hsh2 σ4 _ ⟨by rw [htE]; rw [hsJ] at h4; exact h4, hk4, hz4, hy4⟩ (.cons rfl (.cons rfl (.cons rfl (.cons rfl (.nil _)))))
            case rest2 =>
              rintro σ5 ⟨h5, hk5, hz5, hy5⟩
              have hlen5 : σ.length + 2 ≤ σ5.length := by rw [← hl2]; exact hk5.len
              have hlc : i < s.creds.length := by rw [hcl]; exact hlt
              have hno5 : ∀ id, id = σ.length ∨ id = σ.length + 1 → ¬ OwnR L4 id := fun id he ho => by
                rcases hk5.new _ ho with h' | h'
                · have := h.lt _ h'; omega
                · omega
              obtain ⟨idt, vt, ft, τt, hdt⟩ := DelC.ex σ5 L4.tid L4.tv (intC s.tens) 1 hlt
              obtain ⟨ct, hct1, hct2⟩ := hdt.box (by rw [intC_len, Nat.mul_one]) h5.tb
              rw [intC_erase] at hct2
              obtain ⟨ts, hts⟩ : ∃ ts, ts = s.tens.eraseIdx i := ⟨_, rfl⟩
              have htsl : ts.length = s.tens.length - 1 := by rw [hts, List.length_eraseIdx_of_lt hlt]
              refine S_drawOC (σ5 ++ τt) 15 16 [.ms L4.tid L4.tv 0 s.tens.length 1 false, .ms L4.tid L4.tv 0 s.tens.length 1 false, .ms idt vt 0 (s.tens.length - 1) 1 ft] rfl rfl rfl rfl (fun t => rfl) (fun t ht => ?_) (fun o v ho hv => ?_) ?_
              · have hlr : t[L.r]? = some (0, some (rsB quan L4 ⟨s.tens, s.creds, sE.turn, js⟩)) := by
                  rw [← hr4]
                  rcases ht with rfl | rfl
                  · exact h5.rb
                  · exact apps_get h5.rb
                (repeat' with_reducible apply AllP_cons) <;> try exact aC
                · exact OpSpec.loadP rfl rfl rfl rfl hlr rfl
                · exact OpSpec.loadP rfl rfl rfl rfl hlr rfl
              · cases ho; cases hv
                exact specC_step rfl rfl (OpSpec.delS (cs := intC s.tens) (f2 := false) hdt rfl rfl rfl rfl rfl (delA (n := s.tens.length) ..) rfl (delB _ _ _ _ _ (by omega)) h5.al h5.tb (by rw [intC_len, Nat.mul_one]) (intC_one _) (by show s.tens.length * 8 ≤ _; omega) (by omega))
              refine S_unfull (t := 76) rfl ⟨.skip, _, .inr ⟨_, _, _, rfl⟩⟩ ?_
              obtain ⟨L5, hL5⟩ : ∃ L5 : RL, L5 = ⟨L4.r, idt, L4.cid, L4.jid, vt, L4.cv, L4.jv⟩ := ⟨_, rfl⟩
              obtain ⟨R5, hR5⟩ : ∃ R5 : Nat × Option Box, R5 = (0, some (rsB quan L5 ⟨ts, s.creds, sE.turn, js⟩)) := ⟨_, rfl⟩
              have h6 := h5.toT (ts := ts) hdt.alive hdt.place hL5 hct1
              have hk6 : QKeep σ5 (((σ5 ++ τt).set L4.r R5).set idt (vt, some (.cells (intC ts) ⟨false, none⟩))) (OwnR L4) (OwnR L5) := keepS (.inl rfl) (by rcases hdt.place with h' | h'; exact .inl (.inr (.inl h')); exact .inr h') fun id ho => by
                rw [hL5] at ho
                rcases ho with h' | h' | h' | h'
                · exact .inl (.inl h')
                · exact .inr h'
                · exact .inl (.inr (.inr (.inl h')))
                · exact .inl (.inr (.inr (.inr h')))
              rw [← hR5] at h6
              refine pao [.f (.tup []) (fun t => t.set L4.r R5)] rfl ?_ ?_
              · (repeat' with_reducible apply AllP_cons) <;> try exact aC
                refine OpSpec.storeP (id := L4.r) (gT := some 48) (cs := rsC quan L4 ⟨s.tens, s.creds, sE.turn, js⟩ false) (y := .ms idt vt 0 (s.tens.length - 1) 1 false) rfl rfl (by rw [hr4]; rfl) rfl rfl rfl (apps_get h5.rb) (lble rfl) ?_
                rw [hR5, hL5, ← htsl]; rfl
              have n5 : L4.r ≠ idt := by
                have := lt_of_get h5.rb
                rcases hdt.place with h' | h'
                · rw [h']; exact h5.ap.1
                · omega
              have hcx5 : ((σ5 ++ τt).set L4.r R5)[idt]? = some (vt, some (.cells ct ⟨false, none⟩)) := by rw [set_ne (Ne.symm n5)]; exact hct1
              refine S_cut ((s.tens.length - 1) * 1) hcx5 ⟨_, _, .inl rfl⟩ ?_
              rw [hct2, ← hts]
              have hr5 : L5.r = L.r := by rw [hL5]; exact hr4
              generalize ((σ5 ++ τt).set L4.r R5).set idt (vt, some (.cells (intC ts) ⟨false, none⟩)) = σ6 at *
              obtain ⟨idc, vc, fc, τc, hdcc⟩ := DelC.ex σ6 L5.cid L5.cv (intC s.creds) 1 hlc
              obtain ⟨cc, hcc1, hcc2⟩ := hdcc.box (by rw [intC_len, Nat.mul_one]) h6.cb
              rw [intC_erase] at hcc2
              obtain ⟨cs, hcs⟩ : ∃ cs, cs = s.creds.eraseIdx i := ⟨_, rfl⟩
              have hcsl : cs.length = s.creds.length - 1 := by rw [hcs, List.length_eraseIdx_of_lt hlc]
              refine S_drawOC (σ6 ++ τc) 15 16 [.ms L5.cid L5.cv 0 s.creds.length 1 false, .ms L5.cid L5.cv 0 s.creds.length 1 false, .ms idc vc 0 (s.creds.length - 1) 1 fc] rfl rfl rfl rfl (fun t => rfl) (fun t ht => ?_) (fun o v ho hv => ?_) ?_
              · have hlr : t[L.r]? = some (0, some (rsB quan L5 ⟨ts, s.creds, sE.turn, js⟩)) := by
                  rw [← hr5]
                  rcases ht with rfl | rfl
                  · exact h6.rb
                  · exact apps_get h6.rb
                (repeat' with_reducible apply AllP_cons) <;> try exact aC
                · exact OpSpec.loadP rfl rfl rfl rfl hlr rfl
                · exact OpSpec.loadP rfl rfl rfl rfl hlr rfl
              · cases ho; cases hv
                exact specC_step rfl rfl (OpSpec.delS (cs := intC s.creds) (f2 := false) hdcc rfl rfl rfl rfl rfl (delA (n := s.creds.length) ..) rfl (delB _ _ _ _ _ (by omega)) h6.al h6.cb (by rw [intC_len, Nat.mul_one]) (intC_one _) (by show s.creds.length * 8 ≤ _; omega) (by omega))
              refine S_unfull (t := 94) rfl ⟨.skip, _, .inr ⟨_, _, _, rfl⟩⟩ ?_
              obtain ⟨L6, hL6⟩ : ∃ L6 : RL, L6 = ⟨L5.r, L5.tid, idc, L5.jid, L5.tv, vc, L5.jv⟩ := ⟨_, rfl⟩
              obtain ⟨R6, hR6⟩ : ∃ R6 : Nat × Option Box, R6 = (0, some (rsB quan L6 ⟨ts, cs, sE.turn, js⟩)) := ⟨_, rfl⟩
              have h7 := h6.toC (cs := cs) hdcc.alive hdcc.place hL6 hcc1
              have hk7 : QKeep σ6 (((σ6 ++ τc).set L5.r R6).set idc (vc, some (.cells (intC cs) ⟨false, none⟩))) (OwnR L5) (OwnR L6) := keepS (.inl rfl) (by rcases hdcc.place with h' | h'; exact .inl (.inr (.inr (.inl h'))); exact .inr h') fun id ho => by
                rw [hL6] at ho
                rcases ho with h' | h' | h' | h'
                · exact .inl (.inl h')
                · exact .inl (.inr (.inl h'))
                · exact .inr h'
                · exact .inl (.inr (.inr (.inr h')))
              rw [← hR6] at h7
              refine pao [.f (.tup []) (fun t => t.set L5.r R6), .s] rfl ?_ ?_
              · (repeat' with_reducible apply AllP_cons) <;> try exact aC
                refine OpSpec.storeP (id := L5.r) (gT := some 48) (cs := rsC quan L5 ⟨ts, s.creds, sE.turn, js⟩ false) (y := .ms idc vc 0 (s.creds.length - 1) 1 false) rfl rfl (by rw [hr5]; rfl) rfl rfl rfl (apps_get h6.rb) (lble rfl) ?_
                rw [hR6, hL6, ← hcsl]; rfl
              have n6 : L5.r ≠ idc := by
                have := lt_of_get h6.rb
                rcases hdcc.place with h' | h'
                · rw [h']; exact h6.ap.2.1
                · omega
              have hcx6 : ((σ6 ++ τc).set L5.r R6)[idc]? = some (vc, some (.cells cc ⟨false, none⟩)) := by rw [set_ne (Ne.symm n6)]; exact hcc1
              refine S_cut ((s.creds.length - 1) * 1) hcx6 ⟨.skip, _, .inr ⟨_, _, _, rfl⟩⟩ ?_
              rw [hcc2, ← hcs]
              have hr6 : L6.r = L.r := by rw [hL6]; exact hr5
              have hk8 := (hk5.trans hk6).trans hk7
              have hz7 : (((σ6 ++ τc).set L5.r R6).set idc (vc, some (.cells (intC cs) ⟨false, none⟩)))[σ.length]? = some z0 := by
                rw [(hk6.trans hk7).same _ (by omega) (hno5 _ (.inl rfl))]; exact hz5
              have hy7 : (((σ6 ++ τc).set L5.r R6).set idc (vc, some (.cells (intC cs) ⟨false, none⟩)))[σ.length + 1]? = some zj := by
                rw [(hk6.trans hk7).same _ (by omega) (hno5 _ (.inr rfl))]; exact hy5
              generalize ((σ6 ++ τc).set L5.r R6).set idc (vc, some (.cells (intC cs) ⟨false, none⟩)) = σ7 at *
              refine pao [] rfl ?_ ?_
              · (repeat' with_reducible apply AllP_cons) <;> try exact aC
              refine S_round ((σ7, L6), true, i + 1) (by show (s.tens.length - 1) - (i + 1) < s.tens.length - i; omega) ⟨?_, hr6, hk8, hz7, hy7, fun h => by cases h⟩ (.cons rfl (.cons rfl (.cons rfl (.cons ?_ (.nil _))))) rfl
              · show RAt σ7 L6 quan sE
                have : sE = ⟨ts, cs, sE.turn, js⟩ := by rw [hts, hcs]; rw [hsE]
                rw [this]; exact h7
              · show AV.int .i64 (IntKind.i64.wrap ((i : Int) + 1)) = .int .i64 ((i + 1 : Nat) : Int); exact ai64 rfl (by omega)
          · have c2 : (s.tens[i] == j.ten) = false := by
              rw [← hkt]
              exact beq_false_of_ne fun e => hik (nodup_inj hnd hlt hkl e)
            refine pao [.b false] rfl ?_ ?_
            · (repeat' with_reducible apply AllP_cons) <;> try exact aC
            refine S_round ((σ4, L4), false, i + 1) (by show s.tens.length - (i + 1) < s.tens.length - i; omega) ⟨h4, hr4, hk4, hz4, hy4, fun _ => by show i + 1 ≤ k; omega⟩ (.cons rfl (.cons rfl (.cons rfl (.cons ?_ (.nil _))))) rfl
            · show AV.int .i64 (IntKind.i64.wrap ((i : Int) + 1)) = .int .i64 ((i + 1 : Nat) : Int); exact ai64 rfl (by omega)
      · have hix2 : decide (idxR (fun x => x.ten == j.ten) js < 0) = false := by
          unfold idxR
          cases hq : js.findIdx? (fun x => x.ten == j.ten) with
          | none => exact absurd hq hfi
          | some q => exact decide_eq_false (by show ¬ (q : Int) < 0; omega)
        have hrt : rTake s m = ⟨s.tens, s.creds, s.turn, js⟩ := by unfold rTake; rw [hsj]; simp only; rw [← hjs, if_neg hfi]
        refine pao [.v (.int .i64 j.ten), .k (.int .i64 (idxR (fun x => x.ten == j.ten) js)), .b false, .s] rfl ?_ ?_
        · (repeat' with_reducible apply AllP_cons) <;> try exact aC
          · exact OpSpec.loadP rfl rfl rfl rfl (by rw [hy3, hzj]) rfl
        exact hsh (σ3, L2) _ ⟨by rw [hrt]; exact h3, hr2, hk3, hz3, hy3⟩ (.cons rfl (.cons rfl (.nil _)))
    case rest =>
      rintro ⟨σ4, L4⟩ ⟨h4, hr4, hk4, hz4, hy4⟩
      simp only at h4 hr4 hk4 hz4 hy4
      refine pao [.v (jobA j), .f (.tup []) (fun t => t.set σ.length zj)] rfl ?_ ?_
      · (repeat' with_reducible apply AllP_cons) <;> try exact aC
        · exact OpSpec.loadPA rfl rfl rfl rfl (by rw [hy4, hzj]) (lble rfl) rfl
        · exact OpSpec.storeP (id := σ.length) (gT := some 34) (cs := [.int .i64 0, .str [], .int .i64 0]) (y := jobA j) rfl rfl rfl rfl rfl rfl (by rw [hz4, hz0]) (lble rfl) (by rw [hzj]; rfl)
      have hno : ¬ OwnR L4 σ.length := fun ho => by
        rcases hk4.new _ ho with h' | h'
        · exact hno0 h'
        · omega
      refine S_ret (ret_c1 (id := σ.length) (off := 0) (cur := 0) (cs := j.cells) (g := ⟨false, some 34⟩) rfl rfl ?_ rfl ⟨rfl, L4, ?_, hr4, ?_⟩)
      · show (List.set σ4 σ.length zj)[σ.length]? = _
        rw [set_eq hz4, hzj]
      · exact h4.mono (Alive.set' h4.al (by rw [hzj]; exact ⟨_, rfl⟩) _) fun id ho => set_ne fun e => hno (e ▸ ho)
      · exact (hk2.trans hk4).set (Nat.le_refl _) _
end Go.Proofs.Ytjaflkgfipaajaa
end
section
set_option linter.unusedVariables false
set_option linter.unusedSimpArgs false
set_option maxRecDepth 20000
namespace Go.Proofs.Ytjaflkgfipaajaa
open Go Go.Ab
def headT : List QT → Bool
  | [] => false
  | t :: _ => t.turn
structure Sim (ring : List QT) (s : RS) : Prop where
  tens : s.tens = ring.map QT.num
  creds : s.creds = ring.map QT.cred
  turn : s.turn = headT ring
  nd : s.tens.Nodup
  fil : ∀ t ∈ ring, t.jobs = s.jobs.filter (fun j => j.ten == t.num)
  mem : ∀ j ∈ s.jobs, j.ten ∈ s.tens
  nms : (s.jobs.map QJ.name).Nodup
  many : s.jobs.length = manyQ ring
theorem eraseIdx_map' {α β : Type} (f : α → β) : ∀ (l : List α) (i : Nat), (l.map f).eraseIdx i = (l.eraseIdx i).map f
  | [], i => by simp
  | x :: r, 0 => rfl
  | x :: r, i + 1 => by rw [List.map_cons, List.eraseIdx_cons_succ, List.eraseIdx_cons_succ, List.map_cons, eraseIdx_map' f r i]
theorem filter_erase_no {p : QJ → Bool} : ∀ {l : List QJ} {m : Nat} (hm : m < l.length), p l[m] = false → (l.eraseIdx m).filter p = l.filter p
  | x :: r, 0, _, h => by rw [List.eraseIdx_cons_zero, List.filter_cons_of_neg (by rw [show p x = false from h]; simp)]
  | x :: r, m + 1, hm, h => by
    have := filter_erase_no (l := r) (m := m) (Nat.lt_of_succ_lt_succ hm) h
    rw [List.eraseIdx_cons_succ, List.filter_cons, List.filter_cons, this]
theorem erase_name : ∀ {l : List QJ} {m : Nat} (hm : m < l.length), (l.map QJ.name).Nodup → l.eraseIdx m = l.filter (fun y => !(y.name == l[m].name))
  | x :: r, 0, _, h => by
    rw [List.map_cons, List.nodup_cons] at h
    rw [List.eraseIdx_cons_zero, List.getElem_cons_zero, List.filter_cons_of_neg (by simp)]
    symm
    rw [List.filter_eq_self]
    intro y hy
    have : y.name ≠ x.name := fun e => h.1 (e ▸ List.mem_map_of_mem hy)
    simpa using this
  | x :: r, m + 1, hm, h => by
    rw [List.map_cons, List.nodup_cons] at h
    have hm' : m < r.length := Nat.lt_of_succ_lt_succ hm
    have ih := erase_name hm' h.2
    rw [List.eraseIdx_cons_succ, List.getElem_cons_succ, List.filter_cons_of_pos ?_, ← ih]
    have : x.name ≠ r[m].name := fun e => h.1 (e ▸ List.mem_map_of_mem (List.getElem_mem hm'))
    simpa using this
theorem filter_erase {p : QJ → Bool} {l : List QJ} {m k : Nat} (hm : m < l.length) (hk : k < (l.filter p).length) (he : (l.filter p)[k] = l[m]) (hn : (l.map QJ.name).Nodup) : (l.eraseIdx m).filter p = (l.filter p).eraseIdx k := by
  have hn2 : ((l.filter p).map QJ.name).Nodup := hn.sublist ((List.filter_sublist).map _)
  rw [erase_name hm hn, erase_name hk hn2, he, List.filter_filter, List.filter_filter]
  congr 1
  funext y
  exact Bool.and_comm ..
theorem find_filter {p : QJ → Bool} : ∀ {l : List QJ} {j : QJ} {js : List QJ}, l.filter p = j :: js → ∃ m, ∃ hm : m < l.length, l.findIdx? p = some m ∧ l[m] = j
  | [], j, js, h => by cases h
  | x :: r, j, js, h => by
    cases hx : p x with
    | true =>
      rw [List.filter_cons_of_pos (by rw [hx])] at h
      exact ⟨0, Nat.zero_lt_succ _, by rw [List.findIdx?_cons, hx]; rfl, (List.cons.inj h).1⟩
    | false =>
      rw [List.filter_cons_of_neg (by rw [hx]; simp)] at h
      obtain ⟨m, hm, h1, h2⟩ := find_filter h
      exact ⟨m + 1, Nat.succ_lt_succ hm, by rw [List.findIdx?_cons, hx, h1]; rfl, h2⟩
theorem find_no {p : QJ → Bool} {l : List QJ} : l.findIdx? p = none ↔ l.filter p = [] := by
  rw [List.findIdx?_eq_none_iff, List.filter_eq_nil_iff]
  constructor
  · intro h x hx; rw [h x hx]; simp
  · intro h x hx; simpa using h x hx
theorem idx_of_at {l : List Int} (h : l.Nodup) {i : Nat} (hi : i < l.length) {x : Int} (hx : l[i] = x) : l.idxOf x = i := by
  have hm : x ∈ l := hx ▸ List.getElem_mem hi
  have h1 := List.idxOf_lt_length_of_mem hm
  exact nodup_inj h h1 hi ((List.getElem_idxOf h1).trans hx.symm)
theorem Sim.at_ {ring : List QT} {s : RS} (h : Sim ring s) {i k : Nat} (hi : i < ring.length) (hk : k < ring[i].jobs.length) : ring[i].jobs[k].ten = ring[i].num ∧ ring[i].jobs[k] ∈ s.jobs := by
  have h1 := h.fil _ (List.getElem_mem hi)
  have h3 : ring[i].jobs[k] ∈ s.jobs.filter (fun j => j.ten == ring[i].num) := by
    have h2 := List.getElem_mem hk
    generalize ring[i].jobs[k] = x at h2 ⊢
    rw [h1] at h2
    exact h2
  obtain ⟨a, b⟩ := List.mem_filter.1 h3
  exact ⟨by simpa using b, a⟩
theorem Sim.num_inj {ring : List QT} {s : RS} (h : Sim ring s) {i k : Nat} (hi : i < ring.length) (hk : k < ring.length) (e : ring[i].num = ring[k].num) : i = k := by
  have hn := h.nd
  rw [h.tens] at hn
  exact nodup_inj hn (by simpa using hi) (by simpa using hk) (by simpa using e)
theorem Sim.take {quan : Int} {ring : List QT} {s : RS} (h : Sim ring s) (hok : QOk quan ring) {i k m : Nat} (hi : i < ring.length) (hk : k < ring[i].jobs.length) (hm : m < s.jobs.length) (he : s.jobs[m] = ring[i].jobs[k]) : Sim (takR ring i k) (rTake s m) := by
  obtain ⟨h1, h2⟩ := h.at_ hi hk
  have hfi := h.fil _ (List.getElem_mem hi)
  have hk' : k < (s.jobs.filter (fun j => j.ten == ring[i].num)).length := by rw [← hfi]; exact hk
  have hke : (s.jobs.filter (fun j => j.ten == ring[i].num))[k] = s.jobs[m] := by
    rw [he]
    exact List.getElem_of_eq hfi.symm _
  have hfe := filter_erase hm hk' hke h.nms
  rw [← hfi] at hfe
  have hten : s.jobs[m].ten = ring[i].num := by rw [he]; exact h1
  have hidx : s.tens.idxOf (s.jobs[m].ten) = i := idx_of_at h.nd (i := i) (by rw [h.tens]; simpa using hi) (by simp only [h.tens, List.getElem_map]; exact hten.symm)
  have hother : ∀ t ∈ ring, t.num ≠ ring[i].num → (s.jobs.eraseIdx m).filter (fun j => j.ten == t.num) = t.jobs := fun t ht hne => by
    rw [h.fil t ht]
    refine filter_erase_no hm ?_
    rw [hten]
    exact beq_false_of_ne (Ne.symm hne)
  have hnms : ((s.jobs.eraseIdx m).map QJ.name).Nodup := h.nms.sublist ((List.eraseIdx_sublist ..).map _)
  have hml := many_take hi hk
  have hmany : (s.jobs.eraseIdx m).length = manyQ (takR ring i k) := by
    rw [List.length_eraseIdx_of_lt hm, h.many]; omega
  have hnone : (s.jobs.eraseIdx m).findIdx? (fun x => x.ten == s.jobs[m].ten) = none ↔ ring[i].jobs.eraseIdx k = [] := by
    rw [find_no, hten, hfe]
  unfold rTake
  rw [List.getElem?_eq_getElem hm]
  simp only
  rw [hidx]
  rw [takR_eq hi] at hmany ⊢
  by_cases hn : ring[i].jobs.eraseIdx k = []
  · rw [if_pos hn] at hmany ⊢
    rw [if_pos (hnone.2 hn)]
    have hne : ∀ t ∈ ring.eraseIdx i, t ∈ ring ∧ t.num ≠ ring[i].num := fun t ht => by
      have hmt : t ∈ ring := List.mem_of_mem_eraseIdx ht
      refine ⟨hmt, fun e => ?_⟩
      obtain ⟨q, hq, hqi, rfl⟩ := List.mem_eraseIdx_iff_getElem.1 ht
      exact hqi (h.num_inj hq hi e)
    refine ⟨?_, ?_, ?_, ?_, fun t ht => ?_, fun j hj => ?_, hnms, hmany⟩
    · show s.tens.eraseIdx i = _
      rw [h.tens, eraseIdx_map']
    · show s.creds.eraseIdx i = _
      rw [h.creds, eraseIdx_map']
    · show (if i = 0 then false else s.turn) = _
      cases ring with
      | nil => cases hi
      | cons x r =>
        cases i with
        | zero =>
          rw [if_pos rfl]
          cases r with
          | nil => rfl
          | cons y r' => exact (hok.tl y (List.mem_cons_self ..)).symm
        | succ i => rw [if_neg (Nat.succ_ne_zero i), h.turn]; rfl
    · exact h.nd.sublist (List.eraseIdx_sublist ..)
    · obtain ⟨a, b⟩ := hne t ht
      exact (hother t a b).symm
    · show j.ten ∈ s.tens.eraseIdx i
      have hj' : j ∈ s.jobs.eraseIdx m := hj
      have hjt := h.mem j (List.mem_of_mem_eraseIdx hj')
      obtain ⟨q, hq, hqe⟩ := List.getElem_of_mem hjt
      refine List.mem_eraseIdx_iff_getElem.2 ⟨q, hq, fun e => ?_, hqe⟩
      subst e
      have : j.ten = s.jobs[m].ten := by
        rw [← hqe, hten]
        simp only [h.tens, List.getElem_map]
      have h5 := List.findIdx?_eq_none_iff.1 (hnone.2 hn) j hj'
      rw [this] at h5
      simp at h5
  · rw [if_neg hn] at hmany ⊢
    rw [if_neg (fun e => hn (hnone.1 e))]
    refine ⟨?_, ?_, ?_, h.nd, fun t ht => ?_, fun j hj => h.mem j (List.mem_of_mem_eraseIdx hj), hnms, hmany⟩
    · show s.tens = _
      rw [h.tens, List.map_set]
      symm
      have : (lessJ ring[i] k).num = (ring.map QT.num)[i]'(by simpa using hi) := by simp [lessJ]
      rw [this, List.set_getElem_self]
    · show s.creds = _
      rw [h.creds, List.map_set]
      symm
      have : (lessJ ring[i] k).cred = (ring.map QT.cred)[i]'(by simpa using hi) := by simp [lessJ]
      rw [this, List.set_getElem_self]
    · show s.turn = _
      rw [h.turn]
      cases ring with
      | nil => cases hi
      | cons x r =>
        cases i with
        | zero => rfl
        | succ i => rfl
    · obtain ⟨q, hq, rfl⟩ := List.getElem_of_mem ht
      have hq' : q < ring.length := by simpa using hq
      rw [List.getElem_set]
      split
      · rename_i hqi
        subst hqi
        show ring[i].jobs.eraseIdx k = (s.jobs.eraseIdx m).filter (fun j => j.ten == ring[i].num)
        exact hfe.symm
      · rename_i hqi
        exact (hother _ (List.getElem_mem hq') (fun e => hqi (h.num_inj hi hq' e.symm))).symm
theorem Sim.mem_iff {ring : List QT} {s : RS} (h : Sim ring s) {nm : Nm} : nm ∈ s.jobs.map QJ.name ↔ nm ∈ nmsQ ring := by
  unfold nmsQ
  constructor
  · intro hm
    obtain ⟨j, hj, rfl⟩ := List.mem_map.1 hm
    have hjt := h.mem j hj
    rw [h.tens] at hjt
    obtain ⟨t, ht, he⟩ := List.mem_map.1 hjt
    refine List.mem_flatMap.2 ⟨t, ht, List.mem_map_of_mem ?_⟩
    rw [h.fil t ht]
    exact List.mem_filter.2 ⟨hj, by simp [he]⟩
  · intro hm
    obtain ⟨t, ht, hm⟩ := List.mem_flatMap.1 hm
    obtain ⟨j, hj, rfl⟩ := List.mem_map.1 hm
    rw [h.fil t ht] at hj
    exact List.mem_map_of_mem (List.mem_filter.1 hj).1
theorem Sim.none_iff {quan : Int} {ring : List QT} {s : RS} (h : Sim ring s) (hok : QOk quan ring) {x : Int} : s.jobs.findIdx? (fun j => j.ten == x) = none ↔ ring.findIdx? (fun t => t.num == x) = none := by
  rw [List.findIdx?_eq_none_iff, List.findIdx?_eq_none_iff]
  constructor
  · intro h1 t ht
    cases hb : t.num == x with
    | false => rfl
    | true =>
      exfalso
      have he : t.num = x := by simpa using hb
      obtain ⟨j, hj⟩ := List.exists_mem_of_ne_nil _ (hok.ne t ht)
      rw [h.fil t ht] at hj
      obtain ⟨a, b⟩ := List.mem_filter.1 hj
      have := h1 j a
      rw [← he] at this
      rw [this] at b
      cases b
  · intro h1 j hj
    cases hb : j.ten == x with
    | false => rfl
    | true =>
      exfalso
      have he : j.ten = x := by simpa using hb
      have hjt := h.mem j hj
      rw [h.tens] at hjt
      obtain ⟨t, ht, hte⟩ := List.mem_map.1 hjt
      have := h1 t ht
      rw [hte, he] at this
      simp at this
def rPut (s : RS) (j : QJ) : RS := if s.jobs.findIdx? (fun x => x.ten == j.ten) = none then ⟨s.tens ++ [j.ten], s.creds ++ [0], s.turn, s.jobs ++ [j]⟩ else ⟨s.tens, s.creds, s.turn, s.jobs ++ [j]⟩
theorem Sim.put {quan : Int} {ring : List QT} {s : RS} (h : Sim ring s) (hok : QOk quan ring) {j : QJ} (hp : putE ring j = 0) : Sim (addJ ring j) (rPut s j) := by
  have hnew : j.name ∉ s.jobs.map QJ.name := fun hm => put_new hp (h.mem_iff.1 hm)
  have hnms : ((s.jobs ++ [j]).map QJ.name).Nodup := by
    rw [List.map_append, List.nodup_append]
    refine ⟨h.nms, by simp, fun a ha b hb => ?_⟩
    have : b = j.name := by simpa using hb
    subst this
    rintro rfl
    exact hnew ha
  have hmany : (s.jobs ++ [j]).length = manyQ (addJ ring j) := by rw [many_addJ, List.length_append, h.many]; rfl
  unfold rPut
  cases hf : ring.findIdx? (fun t => t.num == j.ten) with
  | none =>
    rw [if_pos ((h.none_iff hok).2 hf)]
    rw [addJ_no hf] at hmany ⊢
    have hnt : j.ten ∉ s.tens := fun hm => by
      rw [h.tens] at hm
      obtain ⟨t, ht, he⟩ := List.mem_map.1 hm
      have := List.findIdx?_eq_none_iff.1 hf t ht
      simp [he] at this
    have hno := (h.none_iff hok).2 hf
    refine ⟨?_, ?_, ?_, ?_, fun t ht => ?_, fun x hx => ?_, hnms, hmany⟩
    · show s.tens ++ [j.ten] = _
      rw [h.tens, List.map_append]; rfl
    · show s.creds ++ [0] = _
      rw [h.creds, List.map_append]; rfl
    · show s.turn = _
      rw [h.turn]
      cases ring with
      | nil => rfl
      | cons x r => rfl
    · show (s.tens ++ [j.ten]).Nodup
      rw [List.nodup_append]
      refine ⟨h.nd, by simp, fun a ha b hb => ?_⟩
      have : b = j.ten := by simpa using hb
      subst this
      rintro rfl
      exact hnt ha
    · show t.jobs = (s.jobs ++ [j]).filter (fun x => x.ten == t.num)
      rw [List.filter_append]
      rcases List.mem_append.1 ht with ht | ht
      · have hne : (j.ten == t.num) = false := beq_false_of_ne fun e => hnt (by rw [h.tens, e]; exact List.mem_map_of_mem ht)
        rw [← h.fil t ht, List.filter_cons_of_neg (by rw [hne]; simp), List.filter_nil, List.append_nil]
      · rw [List.mem_singleton.1 ht]
        show [j] = s.jobs.filter (fun x => x.ten == j.ten) ++ [j].filter (fun x => x.ten == j.ten)
        rw [find_no.1 hno, List.filter_cons_of_pos (by simp), List.filter_nil, List.nil_append]
    · show x.ten ∈ s.tens ++ [j.ten]
      rcases List.mem_append.1 (show x ∈ s.jobs ++ [j] from hx) with hx | hx
      · exact List.mem_append_left _ (h.mem x hx)
      · rw [List.mem_singleton.1 hx]; exact List.mem_append_right _ (List.mem_singleton.2 rfl)
  | some i =>
    obtain ⟨hi, hie, _⟩ := List.findIdx?_eq_some_iff_getElem.1 hf
    have hie : ring[i].num = j.ten := by simpa using hie
    rw [if_neg (fun e => by rw [(h.none_iff hok).1 e] at hf; cases hf)]
    rw [addJ_at hi hf] at hmany ⊢
    refine ⟨?_, ?_, ?_, h.nd, fun t ht => ?_, fun x hx => ?_, hnms, hmany⟩
    · show s.tens = _
      rw [h.tens, List.map_set]
      symm
      have : (moreJ ring[i] j).num = (ring.map QT.num)[i]'(by simpa using hi) := by simp [moreJ]
      rw [this, List.set_getElem_self]
    · show s.creds = _
      rw [h.creds, List.map_set]
      symm
      have : (moreJ ring[i] j).cred = (ring.map QT.cred)[i]'(by simpa using hi) := by simp [moreJ]
      rw [this, List.set_getElem_self]
    · show s.turn = _
      rw [h.turn]
      cases ring with
      | nil => cases hi
      | cons x r =>
        cases i with
        | zero => rfl
        | succ i => rfl
    · show t.jobs = (s.jobs ++ [j]).filter (fun x => x.ten == t.num)
      rw [List.filter_append]
      obtain ⟨q, hq, rfl⟩ := List.getElem_of_mem ht
      have hq' : q < ring.length := by simpa using hq
      rw [List.getElem_set]
      split
      · rename_i hqi
        subst hqi
        show ring[i].jobs ++ [j] = s.jobs.filter (fun x => x.ten == ring[i].num) ++ [j].filter (fun x => x.ten == ring[i].num)
        rw [← h.fil _ (List.getElem_mem hi), List.filter_cons_of_pos (by rw [hie]; simp), List.filter_nil]
      · rename_i hqi
        have hne : (j.ten == ring[q].num) = false := beq_false_of_ne fun e => hqi (h.num_inj hi hq' (hie.trans e))
        rw [← h.fil _ (List.getElem_mem hq'), List.filter_cons_of_neg (by rw [hne]; simp), List.filter_nil, List.append_nil]
    · show x.ten ∈ s.tens
      rcases List.mem_append.1 (show x ∈ s.jobs ++ [j] from hx) with hx | hx
      · exact h.mem x hx
      · rw [List.mem_singleton.1 hx, h.tens, ← hie]; exact List.mem_map_of_mem (List.getElem_mem hi)
end Go.Proofs.Ytjaflkgfipaajaa
end
section
set_option linter.unusedVariables false
set_option linter.unusedSimpArgs false
set_option maxRecDepth 20000
set_option maxHeartbeats 2000000
namespace Go.Proofs.Ytjaflkgfipaajaa
open Go Go.Ab
def drpR (ring : List QT) (name : Nm) : List QT := match fndQ ring name with | some p => takR ring p.1 p.2 | none => ring
theorem QOk.drop {quan : Int} {ring : List QT} (h : QOk quan ring) (d : Nm) : QOk quan (drpR ring d) := by
  unfold drpR
  cases hq : fndQ ring d with
  | none => exact h
  | some p =>
    obtain ⟨i, k⟩ := p
    obtain ⟨hi, hk, he⟩ := fnd_some hq
    exact h.take hi hk
theorem QAt.apps {σ τ : Heap} {q rid rv : Nat} {es : List QL} {quan : Int} {ring : List QT} (h : QAt σ q rid rv es quan ring) (ht : Alive τ) : QAt (σ ++ τ) q rid rv es quan ring := h.mono (alive_apps h.al ht) fun i y hy => apps_get hy
theorem Drop_ok (σ : Heap) (q rid rv : Nat) (es : List QL) (quan : Int) (ring : List QT) (name : Nm) (h : QAt σ q rid rv es quan ring) (hok : QOk quan ring) :
    CallOk cx 15 [.ptr q 0 0, .str name] σ (fun o s => o = .ret (.bool (fndQ ring name).isSome) ∧ ∃ es', QAt s q rid rv es' quan (drpR ring name) ∧ QKeep σ s (Own q rid es) (Own q rid es')) :=
  callOk_intro (fun a w => Try.call15 a w) Try.func15 rfl Try.ntmps15 rfl fun B => by
    have hrl := hok.len
    have hmn := hok.mn
    have hf := find_ok σ q rid rv es quan ring name h (by omega) (fun t ht => by
      obtain ⟨i, hi, rfl⟩ := List.getElem_of_mem ht
      have := many_at hi
      omega)
    refine pao [] rfl ?_ ?_
    · (repeat' with_reducible apply AllP_cons) <;> try exact aC
    refine S_call rfl rfl rfl hf (fun v' σ' hv => ?_) (fun v' σ' hv => ?_)
    case _ =>
      obtain ⟨e1, τ, hτ, e2⟩ := hv
      cases e1
      subst e2
      have h1 := h.apps hτ
      cases hq : fndQ ring name with
      | none =>
        have hI : fndI ring name = -1 := by unfold fndI; rw [hq]
        have c1 : decide (fndI ring name ≥ 0) = false := by rw [hI]; rfl
        refine pao [.b false] rfl ?_ ?_
        · (repeat' with_reducible apply AllP_cons) <;> try exact aC
        refine S_ret ⟨_, _, rfl, trivial, ?_, es, ?_, QKeep.app⟩
        · show Out.ret (.bool (decide (fndI ring name ≥ 0))) = _
          rw [c1]; rfl
        · unfold drpR; rw [hq]; exact h1
      | some p =>
        obtain ⟨i, k⟩ := p
        have hI : fndI ring name = (i : Int) := by unfold fndI; rw [hq]
        have hK : fndK ring name = (k : Int) := by unfold fndK; rw [hq]
        have c1 : decide (fndI ring name ≥ 0) = true := by rw [hI]; exact decide_eq_true (by omega)
        obtain ⟨hi, hk, hn⟩ := fnd_some hq
        have ht := take_ok (σ ++ τ) q rid rv es quan ring i k h1 hmn hrl hi hk
        refine pao [.b true] rfl ?_ ?_
        · (repeat' with_reducible apply AllP_cons) <;> try exact aC
        rw [← hI, ← hK] at ht
        refine S_call rfl rfl rfl ht (fun v' σ' hv => ?_) (fun v' σ' hv => ?_)
        case _ =>
          obtain ⟨e1, es', h2, hk2⟩ := hv
          cases e1
          refine pao [] rfl ?_ ?_
          · (repeat' with_reducible apply AllP_cons) <;> try exact aC
          refine S_ret ⟨_, _, rfl, trivial, ?_, es', ?_, QKeep.app.trans hk2⟩
          · show Out.ret (.bool (decide (fndI ring name ≥ 0))) = _
            rw [c1]; rfl
          · unfold drpR; rw [hq]; exact h2
        case _ =>
          obtain ⟨e1, _⟩ := hv
          cases e1
    case _ =>
      obtain ⟨e1, _⟩ := hv
      cases e1
end Go.Proofs.Ytjaflkgfipaajaa
end
section
set_option linter.unusedVariables false
set_option linter.unusedSimpArgs false
set_option maxRecDepth 20000
set_option maxHeartbeats 4000000
namespace Go.Proofs.Ytjaflkgfipaajaa
open Go Go.Ab
theorem RAt.pushTC {σ : Heap} {L : RL} {quan : Int} {s : RS} (h : RAt σ L quan s) {ts cs : List Int} {x : Nat × Option Box} {L' : RL} (hL : L' = ⟨L.r, L.tid, L.cid, L.jid, L.tv + 1, L.cv + 1, L.jv⟩) :
    RAt ((((σ.set L.tid (L.tv + 1, some (.cells (intC ts) ⟨false, none⟩))).set L.cid (L.cv + 1, some (.cells (intC cs) ⟨false, none⟩))).set L.r x).set L.r (0, some (rsB quan L' ⟨ts, cs, s.turn, s.jobs⟩))) L' quan ⟨ts, cs, s.turn, s.jobs⟩ := by
  subst hL
  obtain ⟨a1, a2, a3, a4, a5, a6⟩ := h.ap
  have hx : (((((σ.set L.tid (L.tv + 1, some (.cells (intC ts) ⟨false, none⟩))).set L.cid (L.cv + 1, some (.cells (intC cs) ⟨false, none⟩))).set L.r x).set L.r (0, some (rsB quan ⟨L.r, L.tid, L.cid, L.jid, L.tv + 1, L.cv + 1, L.jv⟩ ⟨ts, cs, s.turn, s.jobs⟩)))) = ((σ.set L.tid (L.tv + 1, some (.cells (intC ts) ⟨false, none⟩))).set L.cid (L.cv + 1, some (.cells (intC cs) ⟨false, none⟩))).set L.r (0, some (rsB quan ⟨L.r, L.tid, L.cid, L.jid, L.tv + 1, L.cv + 1, L.jv⟩ ⟨ts, cs, s.turn, s.jobs⟩)) := by rw [List.set_set]
  rw [hx]
  have g1 : (σ.set L.tid (L.tv + 1, some (.cells (intC ts) ⟨false, none⟩)))[L.cid]? = some (L.cv, some (.cells (intC s.creds) ⟨false, none⟩)) := (set_ne (Ne.symm a4)).trans h.cb
  have g2 : ((σ.set L.tid (L.tv + 1, some (.cells (intC ts) ⟨false, none⟩))).set L.cid (L.cv + 1, some (.cells (intC cs) ⟨false, none⟩)))[L.r]? = some (0, some (rsB quan L s)) := (set_ne a2).trans ((set_ne a1).trans h.rb)
  exact ⟨Alive.set (Alive.set (Alive.set h.al _ _ _) _ _ _) _ _ _, set_eq g2, (set_ne (Ne.symm a1)).trans ((set_ne a4).trans (set_eq h.tb)), (set_ne (Ne.symm a2)).trans (set_eq g1), (set_ne (Ne.symm a3)).trans ((set_ne (Ne.symm a6)).trans ((set_ne (Ne.symm a5)).trans h.jb)), h.ap⟩
theorem RAt.pushJ {σ : Heap} {L : RL} {quan : Int} {s : RS} (h : RAt σ L quan s) {js : List QJ} {L' : RL} (hL : L' = ⟨L.r, L.tid, L.cid, L.jid, L.tv, L.cv, L.jv + 1⟩) :
    RAt ((σ.set L.jid (L.jv + 1, some (.cells (jbC js) ⟨false, none⟩))).set L.r (0, some (rsB quan L' ⟨s.tens, s.creds, s.turn, js⟩))) L' quan ⟨s.tens, s.creds, s.turn, js⟩ := by
  subst hL
  obtain ⟨a1, a2, a3, a4, a5, a6⟩ := h.ap
  have g1 : (σ.set L.jid (L.jv + 1, some (.cells (jbC js) ⟨false, none⟩)))[L.r]? = some (0, some (rsB quan L s)) := (set_ne a3).trans h.rb
  exact ⟨Alive.set (Alive.set h.al _ _ _) _ _ _, set_eq g1, (set_ne (Ne.symm a1)).trans ((set_ne a5).trans h.tb), (set_ne (Ne.symm a2)).trans ((set_ne a6).trans h.cb), (set_ne (Ne.symm a3)).trans (set_eq h.jb), h.ap⟩
theorem rPut_ok (σ : Heap) (L : RL) (quan : Int) (s : RS) (j : QJ) (ring : List QT) (h : RAt σ L quan s) (hsim : Sim ring s) (hok : QOk quan ring) (hnl : j.name.length ≤ 1048576) :
    CallOk cx 16 [.ptr L.r 0 0, jobA j] σ (fun o t => o = .ret (.int .i64 (putE ring j : Nat)) ∧ ∃ L', RAt t L' quan (if putE ring j = 0 then rPut s j else s) ∧ L'.r = L.r ∧ QKeep σ t (OwnR L) (OwnR L')) :=
  callOk_intro (fun a w => Try.call16 a w) Try.func16 rfl Try.ntmps16 rfl fun B => by
    have hmn := hok.mn
    have hjl : s.jobs.length ≤ 200 := by rw [hsim.many]; exact hmn
    have hrl := hok.len
    have htl : s.tens.length ≤ 200 := by rw [hsim.tens, List.length_map]; exact hrl
    have hcl : s.creds.length ≤ 200 := by rw [hsim.creds, List.length_map]; exact hrl
    have h1 := h.app 0 (.cells j.cells ⟨false, some 34⟩)
    have hjb : (σ ++ [(0, some (Box.cells j.cells ⟨false, some 34⟩))])[σ.length]? = some (0, some (.cells j.cells ⟨false, some 34⟩)) := app_last
    have hk1 : QKeep σ (σ ++ [(0, some (Box.cells j.cells ⟨false, some 34⟩))]) (OwnR L) (OwnR L) := QKeep.app
    have hlen1 : (σ ++ [(0, some (Box.cells j.cells ⟨false, some 34⟩))]).length = σ.length + 1 := by simp
    have hbox : ∀ {fr : Fr} {o : Oper} {e : TypeId} {x : Operand}, o.op = .box e x → ev cx fr x = jobA j → tyS cx.P e = some 34 → OpSpec cx 73 fr σ o (.ptr σ.length 0 0) (σ ++ [(0, some (Box.cells j.cells ⟨false, some 34⟩))]) := fun ho hx hg => OpSpec.boxE (y := jobA j) ho hx rfl hg h.al
    generalize hσ1 : σ ++ [(0, some (Box.cells j.cells ⟨false, some 34⟩))] = σ1 at *
    have l0 : ∀ {fr : Fr} {o : Oper} {a : Operand}, o.op = .load 3 a → ev cx fr a = .ptr σ.length 0 0 → OpSpec cx 73 fr σ1 o (.int .i64 j.ten) σ1 := fun ho he => OpSpec.loadP ho rfl rfl he hjb rfl
    have l1 : ∀ {fr : Fr} {o : Oper} {a : Operand}, o.op = .load 9 a → ev cx fr a = .ptr σ.length 0 1 → OpSpec cx 73 fr σ1 o (.str j.name) σ1 := fun ho he => OpSpec.loadP ho rfl rfl he hjb rfl
    have l2 : ∀ {fr : Fr} {o : Oper} {a : Operand}, o.op = .load 3 a → ev cx fr a = .ptr σ.length 0 2 → OpSpec cx 73 fr σ1 o (.int .i64 j.cost) σ1 := fun ho he => OpSpec.loadP ho rfl rfl he hjb rfl
    have herr : ∀ (e : Nat), putE ring j = e → e ≠ 0 → Out.ret (.int .i64 (e : Nat)) = .ret (.int .i64 (putE ring j : Nat)) ∧ ∃ L', RAt σ1 L' quan (if putE ring j = 0 then rPut s j else s) ∧ L'.r = L.r ∧ QKeep σ σ1 (OwnR L) (OwnR L') := fun e he hne => ⟨by rw [he], L, by rw [he, if_neg hne]; exact h1, rfl, hk1⟩
    by_cases c1 : j.ten < 1
    · have d1 : decide (j.ten < 1) = true := decide_eq_true c1
      refine pao [.f (.ptr σ.length 0 0) (fun _ => σ1), .v (.int .i64 j.ten), .b true, .b true, .b true, .b true] rfl ?_ ?_
      · (repeat' with_reducible apply AllP_cons) <;> try exact aC
        · exact hbox rfl rfl rfl
        · exact l0 rfl rfl
      exact S_ret ⟨_, _, rfl, trivial, herr 3 (by unfold putE; rw [if_pos (.inl c1)]) (by decide)⟩
    have d1 : decide (j.ten < 1) = false := decide_eq_false c1
    by_cases c2 : j.ten > 20
    · have d2 : decide (j.ten > 20) = true := decide_eq_true c2
      refine pao [.f (.ptr σ.length 0 0) (fun _ => σ1), .v (.int .i64 j.ten), .b false, .v (.int .i64 j.ten), .b true, .b true, .b true] rfl ?_ ?_
      · (repeat' with_reducible apply AllP_cons) <;> try exact aC
        · exact hbox rfl rfl rfl
        · exact l0 rfl rfl
        · exact l0 rfl rfl
      exact S_ret ⟨_, _, rfl, trivial, herr 3 (by unfold putE; rw [if_pos (.inr (.inl c2))]) (by decide)⟩
    have d2 : decide (j.ten > 20) = false := decide_eq_false c2
    by_cases c3 : j.cost < 1
    · have d3 : decide (j.cost < 1) = true := decide_eq_true c3
      refine pao [.f (.ptr σ.length 0 0) (fun _ => σ1), .v (.int .i64 j.ten), .b false, .v (.int .i64 j.ten), .b false, .v (.int .i64 j.cost), .b true, .b true] rfl ?_ ?_
      · (repeat' with_reducible apply AllP_cons) <;> try exact aC
        · exact hbox rfl rfl rfl
        · exact l0 rfl rfl
        · exact l0 rfl rfl
        · exact l2 rfl rfl
      exact S_ret ⟨_, _, rfl, trivial, herr 3 (by unfold putE; rw [if_pos (.inr (.inr (.inl c3)))]) (by decide)⟩
    have d3 : decide (j.cost < 1) = false := decide_eq_false c3
    by_cases c4 : j.cost > 1000
    · have d4 : decide (j.cost > 1000) = true := decide_eq_true c4
      refine pao [.f (.ptr σ.length 0 0) (fun _ => σ1), .v (.int .i64 j.ten), .b false, .v (.int .i64 j.ten), .b false, .v (.int .i64 j.cost), .b false, .v (.int .i64 j.cost), .b true] rfl ?_ ?_
      · (repeat' with_reducible apply AllP_cons) <;> try exact aC
        · exact hbox rfl rfl rfl
        · exact l0 rfl rfl
        · exact l0 rfl rfl
        · exact l2 rfl rfl
        · exact l2 rfl rfl
      exact S_ret ⟨_, _, rfl, trivial, herr 3 (by unfold putE; rw [if_pos (.inr (.inr (.inr c4)))]) (by decide)⟩
    have d4 : decide (j.cost > 1000) = false := decide_eq_false c4
    have hr0 : ¬ (j.ten < 1 ∨ j.ten > 20 ∨ j.cost < 1 ∨ j.cost > 1000) := fun h => by
      rcases h with h | h | h | h
      · exact c1 h
      · exact c2 h
      · exact c3 h
      · exact c4 h
    have hIN := IsName_ok j.name (by omega)
    cases hnm : isName j.name with
    | false =>
      rw [hnm] at hIN
      refine pao [.f (.ptr σ.length 0 0) (fun _ => σ1), .v (.int .i64 j.ten), .b false, .v (.int .i64 j.ten), .b false, .v (.int .i64 j.cost), .b false, .v (.int .i64 j.cost), .b false, .v (.str j.name), .v (.bool false), .b true] rfl ?_ ?_
      · (repeat' with_reducible apply AllP_cons) <;> try exact aC
        · exact hbox rfl rfl rfl
        · exact l0 rfl rfl
        · exact l0 rfl rfl
        · exact l2 rfl rfl
        · exact l2 rfl rfl
        · exact l1 rfl rfl
        · exact ⟨_, hIN, .cons (.refl .str) (.nil _)⟩
      exact S_ret ⟨_, _, rfl, trivial, herr 1 (by unfold putE; rw [if_neg hr0, if_pos hnm]) (by decide)⟩
    | true =>
      rw [hnm] at hIN
      have hJA := JobAt_ok σ1 L quan s j.name h1 (by omega)
      have hsome : (fndQ ring j.name).isSome = (s.jobs.findIdx? (fun x => x.name == j.name)).isSome := by
        rw [Bool.eq_iff_iff]
        constructor
        · intro hs
          have hm : j.name ∈ nmsQ ring := by
            cases hq : fndQ ring j.name with
            | none => rw [hq] at hs; cases hs
            | some p =>
              obtain ⟨i, k⟩ := p
              obtain ⟨hi, hk, he⟩ := fnd_some hq
              have := (nms_take hi hk).subset (List.mem_cons_self ..)
              rw [he] at this
              exact this
          obtain ⟨x, hx, he⟩ := List.mem_map.1 (hsim.mem_iff.2 hm)
          cases hq : s.jobs.findIdx? (fun x => x.name == j.name) with
          | some q => rfl
          | none => have := List.findIdx?_eq_none_iff.1 hq x hx; simp [he] at this
        · intro hs
          cases hq : s.jobs.findIdx? (fun x => x.name == j.name) with
          | none => rw [hq] at hs; cases hs
          | some q =>
            obtain ⟨hq1, hq2, _⟩ := List.findIdx?_eq_some_iff_getElem.1 hq
            have hm : j.name ∈ nmsQ ring := hsim.mem_iff.1 (by
              have : s.jobs[q].name = j.name := by simpa using hq2
              rw [← this]; exact List.mem_map_of_mem (List.getElem_mem hq1))
            cases hq : fndQ ring j.name with
            | none => exact absurd hm (fnd_none hq)
            | some p => rfl
      cases hf : s.jobs.findIdx? (fun x => x.name == j.name) with
      | some q =>
        have hge : decide (idxR (fun x => x.name == j.name) s.jobs ≥ 0) = true := by unfold idxR; rw [hf]; exact decide_eq_true (by show (q : Int) ≥ 0; omega)
        refine pao [.f (.ptr σ.length 0 0) (fun _ => σ1), .v (.int .i64 j.ten), .b false, .v (.int .i64 j.ten), .b false, .v (.int .i64 j.cost), .b false, .v (.int .i64 j.cost), .b false, .v (.str j.name), .v (.bool true), .b false, .v (.str j.name), .k (.int .i64 (idxR (fun x => x.name == j.name) s.jobs)), .b true] rfl ?_ ?_
        · (repeat' with_reducible apply AllP_cons) <;> try exact aC
          · exact hbox rfl rfl rfl
          · exact l0 rfl rfl
          · exact l0 rfl rfl
          · exact l2 rfl rfl
          · exact l2 rfl rfl
          · exact l1 rfl rfl
          · exact ⟨_, hIN, .cons (.refl .str) (.nil _)⟩
          · exact l1 rfl rfl
        exact S_ret ⟨_, _, rfl, trivial, herr 6 (by unfold putE; rw [if_neg hr0, if_neg (by rw [hnm]; simp), if_pos (by rw [hsome, hf]; rfl)]) (by decide)⟩
      | none =>
        have hge : decide (idxR (fun x => x.name == j.name) s.jobs ≥ 0) = false := by unfold idxR; rw [hf]; rfl
        have hns : ¬ (fndQ ring j.name).isSome = true := by rw [hsome, hf]; simp
        by_cases hmm : s.jobs.length = 200
        · have d5 : ((s.jobs.length : Int) == 200) = true := by rw [hmm]; rfl
          refine pao [.f (.ptr σ.length 0 0) (fun _ => σ1), .v (.int .i64 j.ten), .b false, .v (.int .i64 j.ten), .b false, .v (.int .i64 j.cost), .b false, .v (.int .i64 j.cost), .b false, .v (.str j.name), .v (.bool true), .b false, .v (.str j.name), .k (.int .i64 (idxR (fun x => x.name == j.name) s.jobs)), .b false, .v (.ms L.jid L.jv 0 s.jobs.length 3 false), .b true] rfl ?_ ?_
          · (repeat' with_reducible apply AllP_cons) <;> try exact aC
            · exact hbox rfl rfl rfl
            · exact l0 rfl rfl
            · exact l0 rfl rfl
            · exact l2 rfl rfl
            · exact l2 rfl rfl
            · exact l1 rfl rfl
            · exact ⟨_, hIN, .cons (.refl .str) (.nil _)⟩
            · exact l1 rfl rfl
            · exact OpSpec.loadP rfl rfl rfl rfl h1.rb rfl
          exact S_ret ⟨_, _, rfl, trivial, herr 2 (by unfold putE; rw [if_neg hr0, if_neg (by rw [hnm]; simp), if_neg hns, if_pos (by rw [← hsim.many]; exact hmm)]) (by decide)⟩
        have d5 : ((s.jobs.length : Int) == 200) = false := beq_false_of_ne (by omega)
        have hp0 : putE ring j = 0 := by unfold putE; rw [if_neg hr0, if_neg (by rw [hnm]; simp), if_neg hns, if_neg (by rw [← hsim.many]; exact hmm)]
        have hF := First_ok σ1 L quan s j.ten h1 (by omega)
        rw [hp0, if_pos rfl]
        refine' S_shareH (ι := Heap × RL × RS) (fun _ => [(0, .ptr L.r 0 0), (3, .ptr σ.length 0 0)]) (fun u => u.1)
          (fun u => RAt u.1 u.2.1 quan u.2.2 ∧ u.2.1.r = L.r ∧ QKeep σ1 u.1 (OwnR L) (OwnR u.2.1) ∧ u.1[σ.length]? = some (0, some (.cells j.cells ⟨false, some 34⟩)) ∧ u.2.2.jobs = s.jobs ∧ (⟨u.2.2.tens, u.2.2.creds, u.2.2.turn, u.2.2.jobs ++ [j]⟩ : RS) = rPut s j) ?main ?rest
        case main =>
          intro hsh
          cases hfi : s.jobs.findIdx? (fun x => x.ten == j.ten) with
          | some q =>
            have hlt : decide (idxR (fun x => x.ten == j.ten) s.jobs < 0) = false := by unfold idxR; rw [hfi]; exact decide_eq_false (by show ¬ (q : Int) < 0; omega)
            refine pao [.f (.ptr σ.length 0 0) (fun _ => σ1), .v (.int .i64 j.ten), .b false, .v (.int .i64 j.ten), .b false, .v (.int .i64 j.cost), .b false, .v (.int .i64 j.cost), .b false, .v (.str j.name), .v (.bool true), .b false, .v (.str j.name), .k (.int .i64 (idxR (fun x => x.name == j.name) s.jobs)), .b false, .v (.ms L.jid L.jv 0 s.jobs.length 3 false), .b false, .v (.int .i64 j.ten), .k (.int .i64 (idxR (fun x => x.ten == j.ten) s.jobs)), .b false] rfl ?_ ?_
            · (repeat' with_reducible apply AllP_cons) <;> try exact aC
              · exact hbox rfl rfl rfl
              · exact l0 rfl rfl
              · exact l0 rfl rfl
              · exact l2 rfl rfl
              · exact l2 rfl rfl
              · exact l1 rfl rfl
              · exact ⟨_, hIN, .cons (.refl .str) (.nil _)⟩
              · exact l1 rfl rfl
              · exact OpSpec.loadP rfl rfl rfl rfl h1.rb rfl
              · exact l0 rfl rfl
            refine hsh (σ1, L, s) _ ⟨h1, rfl, QKeep.refl, hjb, rfl, ?_⟩ (.cons rfl (.cons rfl (.nil _)))
            unfold rPut
            rw [if_neg (by rw [hfi]; simp)]
          | none =>
            have hlt : decide (idxR (fun x => x.ten == j.ten) s.jobs < 0) = true := by unfold idxR; rw [hfi]; rfl
            refine pao [.f (.ptr σ.length 0 0) (fun _ => σ1), .v (.int .i64 j.ten), .b false, .v (.int .i64 j.ten), .b false, .v (.int .i64 j.cost), .b false, .v (.int .i64 j.cost), .b false, .v (.str j.name), .v (.bool true), .b false, .v (.str j.name), .k (.int .i64 (idxR (fun x => x.name == j.name) s.jobs)), .b false, .v (.ms L.jid L.jv 0 s.jobs.length 3 false), .b false, .v (.int .i64 j.ten), .k (.int .i64 (idxR (fun x => x.ten == j.ten) s.jobs)), .b true] rfl ?_ ?_
            · (repeat' with_reducible apply AllP_cons) <;> try exact aC
              · exact hbox rfl rfl rfl
              · exact l0 rfl rfl
              · exact l0 rfl rfl
              · exact l2 rfl rfl
              · exact l2 rfl rfl
              · exact l1 rfl rfl
              · exact ⟨_, hIN, .cons (.refl .str) (.nil _)⟩
              · exact l1 rfl rfl
              · exact OpSpec.loadP rfl rfl rfl rfl h1.rb rfl
              · exact l0 rfl rfl
            obtain ⟨a1, a2, a3, a4, a5, a6⟩ := h1.ap
            obtain ⟨T, hT⟩ : ∃ T : Nat × Option Box, T = (L.tv + 1, some (.cells (intC (s.tens ++ [j.ten])) ⟨false, none⟩)) := ⟨_, rfl⟩
            obtain ⟨C, hC⟩ : ∃ C : Nat × Option Box, C = (L.cv + 1, some (.cells (intC (s.creds ++ [0])) ⟨false, none⟩)) := ⟨_, rfl⟩
            obtain ⟨L2, hL2⟩ : ∃ L2 : RL, L2 = ⟨L.r, L.tid, L.cid, L.jid, L.tv + 1, L.cv + 1, L.jv⟩ := ⟨_, rfl⟩
            obtain ⟨R1, hR1⟩ : ∃ R1 : Nat × Option Box, R1 = (0, some (.cells [.int .i64 quan, .ms L.tid (L.tv + 1) 0 (s.tens.length + 1) 1 false, .ms L.cid L.cv 0 s.creds.length 1 false, .bool s.turn, .ms L.jid L.jv 0 s.jobs.length 3 false] ⟨false, some 48⟩)) := ⟨_, rfl⟩
            obtain ⟨R2, hR2⟩ : ∃ R2 : Nat × Option Box, R2 = (0, some (rsB quan L2 ⟨s.tens ++ [j.ten], s.creds ++ [0], s.turn, s.jobs⟩)) := ⟨_, rfl⟩
            have hrT : (σ1.set L.tid T)[L.r]? = some (0, some (rsB quan L s)) := (set_ne a1).trans h1.rb
            have hrC : ((σ1.set L.tid T).set L.cid C)[L.r]? = some (0, some (rsB quan L s)) := (set_ne a2).trans hrT
            have hjT : L.tid ≠ σ.length := fun e => by have := h.lt _ (.inr (.inl rfl)); omega
            have hjC : L.cid ≠ σ.length := fun e => by have := h.lt _ (.inr (.inr (.inl rfl))); omega
            have hjR : L.r ≠ σ.length := fun e => by have := h.lt _ (.inl rfl); omega
            have hjbT : (σ1.set L.tid T)[σ.length]? = some (0, some (.cells j.cells ⟨false, some 34⟩)) := (set_ne (Ne.symm hjT)).trans hjb
            have hjbC : ((σ1.set L.tid T).set L.cid C)[σ.length]? = some (0, some (.cells j.cells ⟨false, some 34⟩)) := (set_ne (Ne.symm hjC)).trans hjbT
            have hR1r : (((σ1.set L.tid T).set L.cid C).set L.r R1)[L.r]? = some R1 := set_eq hrC
            have hjbR : (((σ1.set L.tid T).set L.cid C).set L.r R1)[σ.length]? = some (0, some (.cells j.cells ⟨false, some 34⟩)) := (set_ne (Ne.symm hjR)).trans hjbC
            refine S_drawOL [(9, σ1.set L.tid T), (15, (σ1.set L.tid T).set L.cid C), (18, ((σ1.set L.tid T).set L.cid C).set L.r R1)] _ 19 [.ms L.tid L.tv 0 s.tens.length 1 false, .int .i64 j.ten, .ms L.tid (L.tv + 1) 0 (s.tens.length + 1) 1 false, .ms L.cid L.cv 0 s.creds.length 1 false, .ms L.cid (L.cv + 1) 0 (s.creds.length + 1) 1 false, .tup []] _ _ rfl rfl rfl rfl rfl rfl ⟨⟨_, rfl, ?_⟩, ⟨_, rfl, ?_⟩, ⟨_, rfl, ?_⟩, ⟨_, rfl, ?_⟩, trivial⟩ ⟨fun o v ho hv => ?_, fun o v ho hv => ?_, fun o v ho hv => ?_, trivial⟩ rfl ?_
            · (repeat' with_reducible apply AllP_cons) <;> try exact aC
              all_goals first | exact OpSpec.loadP rfl rfl rfl rfl h1.rb rfl | exact OpSpec.loadP rfl rfl rfl rfl hjb rfl
            · (repeat' with_reducible apply AllP_cons) <;> try exact aC
              all_goals first | exact OpSpec.loadP rfl rfl rfl rfl hrT rfl | exact OpSpec.loadP rfl rfl rfl rfl hjbT rfl
            · (repeat' with_reducible apply AllP_cons) <;> try exact aC
              all_goals first | exact OpSpec.loadP rfl rfl rfl rfl hjbC rfl | exact OpSpec.loadP rfl rfl rfl rfl hrC rfl
            · (repeat' with_reducible apply AllP_cons) <;> try exact aC
            · cases ho; cases hv
              exact specC_step rfl rfl (OpSpec.appendX (id := L.tid) (ver := L.tv) (off := 0) (len := s.tens.length) (y := .int .i64 j.ten) (cs := intC s.tens) rfl rfl rfl rfl rfl (fun z hz => by rw [List.mem_singleton.1 (show z ∈ [AV.int .i64 j.ten] from hz)]; rfl) h1.tb (by rw [intC_len]; omega) (by show (s.tens.length + 1) * 8 ≤ _; omega) (by omega) (by rw [hT, intC_app]; rfl))
            · cases ho; cases hv
              exact specC_step rfl rfl (OpSpec.appendX (id := L.cid) (ver := L.cv) (off := 0) (len := s.creds.length) (y := .int .i64 0) (cs := intC s.creds) rfl rfl rfl rfl rfl (fun z hz => by rw [List.mem_singleton.1 (show z ∈ [AV.int .i64 0] from hz)]; rfl) ((set_ne (Ne.symm a4)).trans h1.cb) (by rw [intC_len]; omega) (by show (s.creds.length + 1) * 8 ≤ _; omega) (by omega) (by rw [hC, intC_app]; rfl))
            · cases ho; cases hv
              refine specC_step rfl rfl (OpSpec.storeP (id := L.r) (gT := some 48) (cs := rsC quan L s false) (y := .ms L.tid (L.tv + 1) 0 (s.tens.length + 1) 1 false) rfl rfl rfl rfl rfl rfl hrC (lble rfl) ?_)
              rw [hR1]; rfl
            refine pao [.f (.tup []) (fun t => t.set L.r R2)] rfl ?_ ?_
            · (repeat' with_reducible apply AllP_cons) <;> try exact aC
              · refine OpSpec.storeP (id := L.r) (gT := some 48) (cs := [.int .i64 quan, .ms L.tid (L.tv + 1) 0 (s.tens.length + 1) 1 false, .ms L.cid L.cv 0 s.creds.length 1 false, .bool s.turn, .ms L.jid L.jv 0 s.jobs.length 3 false]) (y := .ms L.cid (L.cv + 1) 0 (s.creds.length + 1) 1 false) rfl rfl rfl rfl rfl rfl (hR1r.trans (by rw [hR1])) (lble rfl) ?_
                rw [hR2, hL2]
                unfold rsB rsC
                simp only [List.length_append, List.length_cons, List.length_nil]
                rfl
            have h2 := h1.pushTC (ts := s.tens ++ [j.ten]) (cs := s.creds ++ [0]) (x := R1) hL2
            rw [← hT, ← hC, ← hR2] at h2
            refine hsh ((((σ1.set L.tid T).set L.cid C).set L.r R1).set L.r R2, L2, ⟨s.tens ++ [j.ten], s.creds ++ [0], s.turn, s.jobs⟩) _ ⟨h2, by show L2.r = L.r; rw [hL2], ?_, ?_, rfl, ?_⟩ (.cons rfl (.cons rfl (.nil _)))
            · have hO : ∀ id, OwnR L2 id ↔ OwnR L id := fun id => by rw [hL2]; exact Iff.rfl
              have := ((((keepO (σ := σ1) (L := L) (x := T) (.inr (.inl rfl))).trans (keepO (x := C) (.inr (.inr (.inl rfl))))).trans (keepO (x := R1) (.inl rfl))).trans (keepO (x := R2) (.inl rfl)))
              exact ⟨this.len, this.same, fun id ho => this.new id ((hO id).1 ho)⟩
            · show ((((σ1.set L.tid T).set L.cid C).set L.r R1).set L.r R2)[σ.length]? = _
              rw [set_ne (Ne.symm hjR), set_ne (Ne.symm hjR)]; exact hjbC
            · unfold rPut
              rw [if_pos hfi]
        case rest =>
          rintro ⟨σ2, L2, s2⟩ ⟨h2, hr2, hk2, hj2, he1, he2⟩
          simp only at h2 hr2 hk2 hj2 he1 he2
          obtain ⟨a1, a2, a3, a4, a5, a6⟩ := h2.ap
          obtain ⟨J, hJ⟩ : ∃ J : Nat × Option Box, J = (L2.jv + 1, some (.cells (jbC (s2.jobs ++ [j])) ⟨false, none⟩)) := ⟨_, rfl⟩
          obtain ⟨L3, hL3⟩ : ∃ L3 : RL, L3 = ⟨L2.r, L2.tid, L2.cid, L2.jid, L2.tv, L2.cv, L2.jv + 1⟩ := ⟨_, rfl⟩
          obtain ⟨R3, hR3⟩ : ∃ R3 : Nat × Option Box, R3 = (0, some (rsB quan L3 ⟨s2.tens, s2.creds, s2.turn, s2.jobs ++ [j]⟩)) := ⟨_, rfl⟩
          have hrJ : (σ2.set L2.jid J)[L2.r]? = some (0, some (rsB quan L2 s2)) := (set_ne a3).trans h2.rb
          have hjJ : L2.jid ≠ σ.length := fun e => by
            rcases hk2.new _ (.inr (.inr (.inr rfl))) with h' | h'
            · have := h.lt _ h'; omega
            · omega
          have hjbJ : (σ2.set L2.jid J)[σ.length]? = some (0, some (.cells j.cells ⟨false, some 34⟩)) := (set_ne (Ne.symm hjJ)).trans hj2
          refine S_drawOC (σ2.set L2.jid J) 7 8 [.ms L2.jid L2.jv 0 s2.jobs.length 3 false, jobA j, .ms L2.jid (L2.jv + 1) 0 (s2.jobs.length + 1) 3 false] rfl rfl rfl rfl (fun t => rfl) (fun t ht => ?_) (fun o v ho hv => ?_) ?_
          · have hlr : t[L.r]? = some (0, some (rsB quan L2 s2)) := by
              rw [← hr2]
              rcases ht with rfl | rfl
              · exact h2.rb
              · exact hrJ
            have hlj : t[σ.length]? = some (0, some (.cells j.cells ⟨false, some 34⟩)) := by
              rcases ht with rfl | rfl
              · exact hj2
              · exact hjbJ
            (repeat' with_reducible apply AllP_cons) <;> try exact aC
            · exact OpSpec.loadP rfl rfl rfl rfl hlr rfl
            · exact OpSpec.loadPA rfl rfl rfl rfl hlj (lble rfl) rfl
          · cases ho; cases hv
            refine specC_step rfl rfl (OpSpec.appendX (id := L2.jid) (ver := L2.jv) (off := 0) (len := s2.jobs.length) (y := jobA j) (cs := jbC s2.jobs) rfl rfl rfl rfl rfl (fun z hz => ?_) h2.jb ?_ ?_ ?_ ?_)
            · have hz : z ∈ j.cells := hz
              exact jbC_one [j] z (by simpa [jbC] using hz)
            · rw [jbC_len]; omega
            · show (s2.jobs.length + 1) * 32 ≤ _; rw [he1]; omega
            · rw [he1]; omega
            · rw [hJ, jbC_app]; rfl
          refine pao [.f (.tup []) (fun t => t.set L2.r R3)] rfl ?_ ?_
          · (repeat' with_reducible apply AllP_cons) <;> try exact aC
            refine OpSpec.storeP (id := L2.r) (gT := some 48) (cs := rsC quan L2 s2 false) (y := .ms L2.jid (L2.jv + 1) 0 (s2.jobs.length + 1) 3 false) rfl rfl (by rw [hr2]; rfl) rfl rfl rfl hrJ (lble rfl) ?_
            rw [hR3, hL3]
            unfold rsB rsC
            simp only [List.length_append, List.length_cons, List.length_nil]
            rfl
          have h3 := h2.pushJ (js := s2.jobs ++ [j]) hL3
          rw [← hJ, ← hR3, he2] at h3
          refine S_ret ⟨_, _, rfl, trivial, rfl, L3, h3, by rw [hL3]; exact hr2, ?_⟩
          have hO : ∀ id, OwnR L3 id ↔ OwnR L2 id := fun id => by rw [hL3]; exact Iff.rfl
          have := (hk1.trans hk2).trans ((keepO (σ := σ2) (L := L2) (x := J) (.inr (.inr (.inr rfl)))).trans (keepO (x := R3) (.inl rfl)))
          exact ⟨this.len, this.same, fun id ho => this.new id ((hO id).1 ho)⟩
end Go.Proofs.Ytjaflkgfipaajaa
end
section
set_option linter.unusedVariables false
set_option linter.unusedSimpArgs false
set_option maxRecDepth 20000
set_option maxHeartbeats 4000000
namespace Go.Proofs.Ytjaflkgfipaajaa
open Go Go.Ab
theorem name_inj {l : List QJ} (h : (l.map QJ.name).Nodup) {x y : QJ} (hx : x ∈ l) (hy : y ∈ l) (e : x.name = y.name) : x = y := by
  obtain ⟨i, hi, rfl⟩ := List.getElem_of_mem hx
  obtain ⟨k, hk, rfl⟩ := List.getElem_of_mem hy
  have := nodup_inj h (i := i) (k := k) (by simpa using hi) (by simpa using hk) (by simpa using e)
  subst this; rfl
theorem Sim.len {quan : Int} {ring : List QT} {s : RS} (h : Sim ring s) (hok : QOk quan ring) : s.jobs.length ≤ 200 ∧ s.tens.length ≤ 200 ∧ s.creds.length = s.tens.length := by
  have := hok.mn
  have := hok.len
  rw [h.many, h.tens, h.creds, List.length_map, List.length_map]
  exact ⟨by omega, by omega, rfl⟩
theorem rDrop_ok (σ : Heap) (L : RL) (quan : Int) (s : RS) (nm : Nm) (ring : List QT) (h : RAt σ L quan s) (hsim : Sim ring s) (hok : QOk quan ring) :
    CallOk cx 18 [.ptr L.r 0 0, .str nm] σ (fun o t => o = .ret (.bool (fndQ ring nm).isSome) ∧ ∃ L' s', RAt t L' quan s' ∧ Sim (drpR ring nm) s' ∧ L'.r = L.r ∧ QKeep σ t (OwnR L) (OwnR L')) :=
  callOk_intro (fun a w => Try.call18 a w) Try.func18 rfl Try.ntmps18 rfl fun B => by
    obtain ⟨l1, l2, l3⟩ := hsim.len hok
    have hJA := JobAt_ok σ L quan s nm h (by omega)
    cases hq : fndQ ring nm with
    | none =>
      have hno : s.jobs.findIdx? (fun x => x.name == nm) = none := by
        rw [List.findIdx?_eq_none_iff]
        intro x hx
        refine beq_false_of_ne fun e => fnd_none hq (hsim.mem_iff.1 ?_)
        rw [← e]; exact List.mem_map_of_mem hx
      have hI : idxR (fun j => j.name == nm) s.jobs = -1 := by unfold idxR; rw [hno]
      have c1 : decide (idxR (fun j => j.name == nm) s.jobs ≥ 0) = false := by rw [hI]; rfl
      refine pao [.k (.int .i64 (idxR (fun j => j.name == nm) s.jobs)), .b false] rfl ?_ ?_
      · (repeat' with_reducible apply AllP_cons) <;> try exact aC
      refine S_ret ⟨_, _, rfl, trivial, ?_, L, s, h, ?_, rfl, QKeep.refl⟩
      · show Out.ret (.bool (decide (idxR (fun j => j.name == nm) s.jobs ≥ 0))) = _
        rw [c1]; rfl
      · unfold drpR; rw [hq]; exact hsim
    | some p =>
      obtain ⟨i, k⟩ := p
      obtain ⟨hi, hk, hn⟩ := fnd_some hq
      obtain ⟨e1, e2⟩ := hsim.at_ hi hk
      obtain ⟨m, hf⟩ : ∃ m, s.jobs.findIdx? (fun x => x.name == nm) = some m := by
        cases hf : s.jobs.findIdx? (fun x => x.name == nm) with
        | some m => exact ⟨m, rfl⟩
        | none => have := List.findIdx?_eq_none_iff.1 hf _ e2; simp [hn] at this
      obtain ⟨hm, hmn, _⟩ := List.findIdx?_eq_some_iff_getElem.1 hf
      have hmn : s.jobs[m].name = nm := by simpa using hmn
      have heq : s.jobs[m] = ring[i].jobs[k] := name_inj hsim.nms (List.getElem_mem hm) e2 (hmn.trans hn.symm)
      have hI : idxR (fun j => j.name == nm) s.jobs = (m : Int) := by unfold idxR; rw [hf]
      have c1 : decide ((m : Int) ≥ 0) = true := decide_eq_true (by omega)
      have ht := rtake_ok σ L quan s m h hm l1 l3 l2 hsim.nd (hsim.mem _ (List.getElem_mem hm))
      rw [hI] at hJA
      refine pao [.k (.int .i64 (m : Nat)), .b true] rfl ?_ ?_
      · (repeat' with_reducible apply AllP_cons) <;> try exact aC
      refine S_call rfl rfl rfl ht (fun v' σ' hv => ?_) (fun v' σ' hv => ?_)
      case _ =>
        obtain ⟨e1, L', h2, hr2, hk2⟩ := hv
        cases e1
        refine pao [] rfl ?_ ?_
        · (repeat' with_reducible apply AllP_cons) <;> try exact aC
        refine S_ret ⟨_, _, rfl, trivial, ?_, L', _, h2, ?_, hr2, hk2⟩
        · show Out.ret (.bool (decide ((m : Int) ≥ 0))) = _
          rw [c1]; rfl
        · unfold drpR; rw [hq]; exact hsim.take hok hi hk hm heq
      case _ =>
        obtain ⟨e1, _⟩ := hv
        cases e1
theorem Sim.cred {t : QT} {r : List QT} {s : RS} (h : Sim (t :: r) s) (c : Int) (b : Bool) : Sim (⟨t.num, c, b, t.jobs⟩ :: r) ⟨s.tens, c :: r.map QT.cred, b, s.jobs⟩ := by
  refine ⟨h.tens, rfl, rfl, h.nd, fun x hx => ?_, h.mem, h.nms, h.many⟩
  rcases List.mem_cons.1 hx with rfl | hx
  · exact h.fil t (List.mem_cons_self ..)
  · exact h.fil x (List.mem_cons_of_mem _ hx)
theorem Sim.rot {quan : Int} {t : QT} {r : List QT} {s : RS} (h : Sim (t :: r) s) (hok : QOk quan (t :: r)) (c : Int) : Sim (r ++ [⟨t.num, c, false, t.jobs⟩]) ⟨r.map QT.num ++ [t.num], r.map QT.cred ++ [c], false, s.jobs⟩ := by
  refine ⟨by rw [List.map_append]; rfl, by rw [List.map_append]; rfl, ?_, ?_, fun x hx => ?_, fun j hj => ?_, h.nms, ?_⟩
  · cases r with
    | nil => rfl
    | cons x r' => exact (hok.tl x (List.mem_cons_self ..)).symm
  · have h1 := h.nd
    rw [h.tens] at h1
    exact (List.perm_append_comm (l₁ := [t.num]) (l₂ := r.map QT.num)).nodup_iff.1 h1
  · rcases List.mem_append.1 hx with hx | hx
    · exact h.fil x (List.mem_cons_of_mem _ hx)
    · rw [List.mem_singleton.1 hx]; exact h.fil t (List.mem_cons_self ..)
  · have h1 := h.mem j hj
    rw [h.tens] at h1
    exact (List.perm_append_comm (l₁ := [t.num]) (l₂ := r.map QT.num)).subset h1
  · rw [show s.jobs.length = _ from h.many, many_app, manyQ, manyQ, manyQ, Nat.add_zero, Nat.add_comm]
theorem RAt.newT {σ : Heap} {L : RL} {quan : Int} {s : RS} (h : RAt σ L quan s) {ts : List Int} {L' : RL} (hL : L' = ⟨L.r, σ.length, L.cid, L.jid, 0, L.cv, L.jv⟩) :
    RAt ((σ ++ [(0, some (Box.cells (intC ts) ⟨false, none⟩))]).set L.r (0, some (rsB quan L' ⟨ts, s.creds, s.turn, s.jobs⟩))) L' quan ⟨ts, s.creds, s.turn, s.jobs⟩ := by
  subst hL
  obtain ⟨a1, a2, a3, a4, a5, a6⟩ := h.ap
  have l1 := lt_of_get h.rb
  have l2 := lt_of_get h.cb
  have l3 := lt_of_get h.jb
  have n1 : L.r ≠ σ.length := by omega
  have n2 : σ.length ≠ L.cid := by omega
  have n3 : σ.length ≠ L.jid := by omega
  exact ⟨Alive.set (h.al.app _ _) _ _ _, set_eq (app_get h.rb), (set_ne (Ne.symm n1)).trans app_last, (set_ne (Ne.symm a2)).trans (app_get h.cb), (set_ne (Ne.symm a3)).trans (app_get h.jb), n1, a2, a3, n2, n3, a6⟩
theorem RAt.newC {σ : Heap} {L : RL} {quan : Int} {s : RS} (h : RAt σ L quan s) {cs : List Int} {L' : RL} (hL : L' = ⟨L.r, L.tid, σ.length, L.jid, L.tv, 0, L.jv⟩) :
    RAt ((σ ++ [(0, some (Box.cells (intC cs) ⟨false, none⟩))]).set L.r (0, some (rsB quan L' ⟨s.tens, cs, s.turn, s.jobs⟩))) L' quan ⟨s.tens, cs, s.turn, s.jobs⟩ := by
  subst hL
  obtain ⟨a1, a2, a3, a4, a5, a6⟩ := h.ap
  have l1 := lt_of_get h.rb
  have l2 := lt_of_get h.tb
  have l3 := lt_of_get h.jb
  have n1 : L.r ≠ σ.length := by omega
  have n2 : L.tid ≠ σ.length := by omega
  have n3 : σ.length ≠ L.jid := by omega
  exact ⟨Alive.set (h.al.app _ _) _ _ _, set_eq (app_get h.rb), (set_ne (Ne.symm a1)).trans (app_get h.tb), (set_ne (Ne.symm n1)).trans app_last, (set_ne (Ne.symm a3)).trans (app_get h.jb), a1, n1, a3, n2, a5, n3⟩
theorem keepN {σ : Heap} {L L' : RL} {r : Nat} {x y : Nat × Option Box} (hr : OwnR L r) (hL : ∀ id, OwnR L' id → OwnR L id ∨ id = σ.length) : QKeep σ ((σ ++ [x]).set r y) (OwnR L) (OwnR L') := by
  refine ⟨by simp, fun id hid hno => ?_, fun id ho => ?_⟩
  · have n2 : id ≠ r := by rintro rfl; exact hno hr
    rw [set_ne n2, List.getElem?_append_left hid]
  · rcases hL id ho with h | rfl
    · exact .inl h
    · exact .inr (Nat.le_refl _)
theorem cutA (id ver n : Nat) (h : 1 ≤ n) : AV.ms id ver (0 + (Option.getD (some (1 : Int)) (0 : Int)).toNat * 1) ((Option.getD (some (n : Int)) (n : Int)).toNat - (Option.getD (some (1 : Int)) (0 : Int)).toNat) 1 true = .ms id ver 1 (n - 1) 1 true := by simp
theorem rNext_ok (σ : Heap) (L : RL) (quan : Int) (s : RS) (ring : List QT) (h : RAt σ L quan s) (hsim : Sim ring s) (hok : QOk quan ring) :
    CallOk cx 17 [.ptr L.r 0 0] σ (fun o t => o = .ret (nxA (nxtQ quan ring)) ∧ ∃ L' s', RAt t L' quan s' ∧ Sim (nxtQ quan ring).2 s' ∧ L'.r = L.r ∧ QKeep σ t (OwnR L) (OwnR L')) :=
  callOk_intro (fun a w => Try.call17 a w) Try.func17 rfl Try.ntmps17 rfl fun B => by
    obtain ⟨z0, hz0⟩ : ∃ z0 : Nat × Option Box, z0 = (0, some (.cells [.int .i64 0, .str [], .int .i64 0] ⟨false, some 34⟩)) := ⟨_, rfl⟩
    have h1 : RAt (σ ++ [z0]) L quan s := by rw [hz0]; exact h.app _ _
    refine pao [.f (.ptr σ.length 0 0) (fun t => t ++ [z0])] rfl ?_ ?_
    · (repeat' with_reducible apply AllP_cons) <;> try exact aC
      · rw [hz0]; exact OpSpec.allocE rfl rfl rfl rfl h.al
    have hq1 := hok.q1
    have hlen1 : (σ ++ [z0]).length = σ.length + 1 := by simp
    have hno0 : ¬ OwnR L σ.length := fun ho => by have := h.lt _ ho; omega
    refine S_while (α := (Heap × RL × RS) × List QT) (fun _ => [(0, .ptr L.r 0 0), (2, .ptr σ.length 0 0)]) (fun u => u.1.1)
      (fun u => RAt u.1.1 u.1.2.1 quan u.1.2.2 ∧ u.1.2.1.r = L.r ∧ QKeep (σ ++ [z0]) u.1.1 (OwnR L) (OwnR u.1.2.1) ∧ u.1.1[σ.length]? = some z0 ∧ Sim u.2 u.1.2.2 ∧ QOk quan u.2 ∧ ∃ f, mQ u.2 < f ∧ nxtF f quan u.2 = nxtQ quan ring) (fun u => mQ u.2) ((σ ++ [z0], L, s), ring)
      ⟨h1, rfl, QKeep.refl, app_last, hsim, hok, mQ ring + 1, Nat.lt_succ_self _, rfl⟩ (.cons rfl (.cons rfl (.nil _))) rfl ?_
    rintro ⟨⟨σ2, L2, s2⟩, ring2⟩ ⟨h2, hr2, hk2, hz2, hsim2, hok2, f, hf, hnf⟩
    simp only at h2 hr2 hk2 hz2 hsim2 hok2 hf hnf
    have hnoL : ∀ {t : Heap} {L' : RL}, QKeep (σ ++ [z0]) t (OwnR L) (OwnR L') → ¬ OwnR L' σ.length := fun hk ho => by
      rcases hk.new _ ho with h' | h'
      · exact hno0 h'
      · omega
    have hka : QKeep σ (σ ++ [z0]) (OwnR L) (OwnR L) := QKeep.app
    obtain ⟨f, rfl⟩ : ∃ g, f = g + 1 := ⟨f - 1, by omega⟩
    obtain ⟨l1, l2, l3⟩ := hsim2.len hok2
    cases ring2 with
    | nil =>
      have hT : s2.tens = [] := hsim2.tens
      have c1 : decide ((s2.tens.length : Int) > 0) = false := by rw [hT]; rfl
      have hnx : nxtQ quan ring = (none, []) := by rw [← hnf]; rfl
      refine pao [.v (.ms L2.tid L2.tv 0 s2.tens.length 1 false), .b false, .f (.tup []) (fun t => t.set σ.length z0)] rfl ?_ ?_
      · (repeat' with_reducible apply AllP_cons) <;> try exact aC
        · exact OpSpec.loadP rfl rfl rfl (by rw [← hr2]; rfl) h2.rb rfl
        · exact OpSpec.storeP (id := σ.length) (gT := some 34) (cs := [.int .i64 0, .str [], .int .i64 0]) (y := jobA job0) rfl rfl rfl rfl rfl rfl (by rw [hz2, hz0]) (lble rfl) (by rw [hz0]; rfl)
      rw [hnx]
      refine S_ret (ret_c2 (id := σ.length) (off := 0) (cur := 0) (cs := [.int .i64 0, .str [], .int .i64 0]) (g := ⟨false, some 34⟩) rfl rfl ?_ rfl rfl ⟨rfl, L2, s2, ?_, hsim2, hr2, ?_⟩)
      · show (List.set σ2 σ.length z0)[σ.length]? = _
        rw [set_eq hz2, hz0]
      · exact h2.mono (Alive.set' h2.al (by rw [hz0]; exact ⟨_, rfl⟩) _) fun id ho => set_ne fun e => hnoL hk2 (e ▸ ho)
      · exact (hka.trans hk2).set (Nat.le_refl _) _
    | cons t r =>
      have hT : s2.tens = t.num :: r.map QT.num := hsim2.tens
      have hCr : s2.creds = t.cred :: r.map QT.cred := hsim2.creds
      have hTu : s2.turn = t.turn := hsim2.turn
      obtain ⟨cr1, cr2, cr3⟩ := hok2.cr t (List.mem_cons_self ..)
      obtain ⟨j, jl, hj⟩ : ∃ j jl, t.jobs = j :: jl := by
        cases hh : t.jobs with
        | nil => exact absurd hh (hok2.ne t (List.mem_cons_self ..))
        | cons j jl => exact ⟨j, jl, rfl⟩
      obtain ⟨co1, co2⟩ := hok2.co t (List.mem_cons_self ..) j (by rw [hj]; exact List.mem_cons_self ..)
      have hfil := hsim2.fil t (List.mem_cons_self ..)
      rw [hj] at hfil
      obtain ⟨m, hm, hfm, hmj⟩ := find_filter hfil.symm
      have c1 : decide ((s2.tens.length : Int) > 0) = true := by rw [hT]; exact decide_eq_true (by rw [List.length_cons]; omega)
      obtain ⟨c, hc⟩ : ∃ c, c = if t.turn = true then t.cred else t.cred + quan := ⟨_, rfl⟩
      have hcb : 0 ≤ c ∧ c ≤ 1999 := by
        rw [hc]
        split
        · exact ⟨cr1, cr2⟩
        · rename_i hx
          have := cr3 (by simpa using hx)
          omega
      obtain ⟨s3, hs3⟩ : ∃ s3 : RS, s3 = ⟨s2.tens, c :: r.map QT.cred, true, s2.jobs⟩ := ⟨_, rfl⟩
      refine' S_shareO (ι := Heap) (fun _ => [(0, .ptr L.r 0 0), (2, .ptr σ.length 0 0)]) (fun u => u)
        (fun u => RAt u L2 quan s3 ∧ QKeep (σ ++ [z0]) u (OwnR L) (OwnR L2) ∧ u[σ.length]? = some z0) ?main ?rest
      case main =>
        intro hsh
        cases ht : t.turn with
        | true =>
          have c2 : s2.turn = true := hTu.trans ht
          refine pao [.v (.ms L2.tid L2.tv 0 s2.tens.length 1 false), .b true, .v (.bool s2.turn), .b false, .s] rfl ?_ ?_
          · (repeat' with_reducible apply AllP_cons) <;> try exact aC
            · exact OpSpec.loadP rfl rfl rfl (by rw [← hr2]; rfl) h2.rb rfl
            · exact OpSpec.loadP rfl rfl rfl (by rw [← hr2]; rfl) h2.rb rfl
            · rw [c2]; rfl
          refine hsh σ2 _ ⟨?_, hk2, hz2⟩ (.cons rfl (.cons rfl (.nil _)))
          have : s3 = s2 := by
            rw [hs3, hc, if_pos ht, ← hCr, ← c2]
          rw [this]; exact h2
        | false =>
          have c2 : s2.turn = false := hTu.trans ht
          have hc' : c = t.cred + quan := by rw [hc, if_neg (by rw [ht]; simp)]
          have hw : IntKind.i64.wrap (t.cred + quan) = c := by
            rw [show t.cred + quan = (c.toNat : Int) by omega, w64 rfl (by omega)]; omega
          obtain ⟨R2, hR2⟩ : ∃ R2 : Nat × Option Box, R2 = (0, some (rsB quan L2 ⟨s2.tens, s2.creds, true, s2.jobs⟩)) := ⟨_, rfl⟩
          have h3 := h2.setTurn true
          rw [← hR2] at h3
          refine pao [.v (.ms L2.tid L2.tv 0 s2.tens.length 1 false), .b true, .v (.bool s2.turn), .b true, .f (.tup []) (fun u => u.set L2.r R2)] rfl ?_ ?_
          · (repeat' with_reducible apply AllP_cons) <;> try exact aC
            · exact OpSpec.loadP rfl rfl rfl (by rw [← hr2]; rfl) h2.rb rfl
            · exact OpSpec.loadP rfl rfl rfl (by rw [← hr2]; rfl) h2.rb rfl
            · rw [c2]; rfl
            · refine OpSpec.storeP (id := L2.r) (gT := some 48) (cs := rsC quan L2 s2 false) (y := .bool true) rfl rfl (by rw [hr2]; rfl) rfl rfl rfl h2.rb (lble rfl) ?_
              rw [hR2]; rfl
          have hk3 := hk2.trans (keepO (x := R2) (L := L2) (.inl rfl))
          have hz3 : (List.set σ2 L2.r R2)[σ.length]? = some z0 := by rw [set_ne (fun e => hnoL hk2 (.inl e))]; exact hz2
          refine S_heap (List.set σ2 L2.r R2) rfl ?_
          generalize List.set σ2 L2.r R2 = σ3 at *
          have hcl2 : (0 : Int) < (s2.creds.length : Int) := by rw [hCr, List.length_cons]; omega
          have hcx : ((intC s2.creds).drop (offN 0 (mulN ((0 : Int)).toNat 1)))[0]? = some (.int .i64 t.cred) := by rw [hCr]; rfl
          obtain ⟨C3, hC3⟩ : ∃ C3 : Nat × Option Box, C3 = (L2.cv, some (.cells (intC (c :: r.map QT.cred)) ⟨false, none⟩)) := ⟨_, rfl⟩
          refine S_drawO 11 [.ms L2.cid L2.cv 0 s2.creds.length 1 false, .top, .int .i64 t.cred, .int .i64 quan] rfl rfl rfl rfl ?_ ?_
          · (repeat' with_reducible apply AllP_cons) <;> try exact aC
            · exact OpSpec.loadP rfl rfl rfl (by rw [← hr2]; rfl) h3.rb rfl
            · exact OpSpec.loadE rfl rfl rfl rfl h3.cb hcx
            · exact OpSpec.loadP rfl rfl rfl (by rw [← hr2]; rfl) h3.rb rfl
          refine pao [.v .top, .f (.tup []) (fun u => u.set L2.cid C3), .s] rfl ?_ ?_
          · (repeat' with_reducible apply AllP_cons) <;> try exact aC
            · refine OpSpec.storeX (id := L2.cid) (off := 0) (cs := intC s2.creds) (y := .int .i64 c) rfl rfl rfl ?_ rfl rfl h3.cb (by rw [intC_len, hCr]; exact Nat.succ_le_succ (Nat.zero_le _)) ?_
              · show AV.int .i64 (IntKind.i64.wrap (t.cred + quan)) = _
                rw [hw]
              · rw [hC3, hCr]; rfl
          refine hsh (σ3.set L2.cid C3) _ ⟨?_, hk3.trans (keepO (.inr (.inr (.inl rfl)))), ?_⟩ (.cons rfl (.cons rfl (.nil _)))
          · rw [hs3, hC3]
            exact h3.setC (cs := c :: r.map QT.cred) (by show _ = s2.creds.length; rw [hCr]; rfl)
          · rw [set_ne (fun e => hnoL hk2 (.inr (.inr (.inl e))))]; exact hz3
      case rest =>
        rintro σ3 ⟨h3, hk3, hz3⟩
        have hT3 : s3.tens = t.num :: r.map QT.num := by rw [hs3]; exact hT
        have hC3 : s3.creds = c :: r.map QT.cred := by rw [hs3]
        have hJ3 : s3.jobs = s2.jobs := by rw [hs3]
        have htl0 : (0 : Int) < (s3.tens.length : Int) := by rw [hT3, List.length_cons]; omega
        have hcl0 : (0 : Int) < (s3.creds.length : Int) := by rw [hC3, List.length_cons]; omega
        have hml : (m : Int) < (s3.jobs.length : Int) := by rw [hJ3]; omega
        have hF := First_ok σ3 L2 quan s3 t.num h3 (by rw [hJ3]; omega)
        have hidx : idxR (fun j => j.ten == t.num) s3.jobs = (m : Int) := by unfold idxR; rw [hJ3, hfm]
        rw [hidx, hr2] at hF
        have htx : ((intC s3.tens).drop (offN 0 (mulN ((0 : Int)).toNat 1)))[0]? = some (.int .i64 t.num) := by rw [hT3]; rfl
        have hcx : ((intC s3.creds).drop (offN 0 (mulN ((0 : Int)).toNat 1)))[0]? = some (.int .i64 c) := by rw [hC3]; rfl
        have hjx := jbC_f (l := s3.jobs) (k := m) (by rw [hJ3]; exact hm) 2 (by decide)
        have hmj3 : (s3.jobs[m]'(by rw [hJ3]; exact hm)) = j := by rw [← hmj]; simp only [hJ3]
        rw [hmj3] at hjx
        have hjx : ((jbC s3.jobs).drop (offN 0 (mulN ((m : Int)).toNat 3) + 2))[0]? = some (.int .i64 j.cost) := hjx
        have hro : ∀ {u : Heap} {fr : Fr} {o : Oper} {a : Operand} {off : Nat} {T : TypeId} {v : AV} {s : RS} {L' : RL}, RAt u L' quan s → L'.r = L.r → o.op = .load T a → aggT cx.P T = some false → (∃ m, szOf cx.P T = some m) → ev cx fr a = .ptr L.r 0 off → ((rsC quan L' s false).drop off)[0]? = some v → OpSpec cx 129 fr u o v u := fun hu hr ho ha ⟨m, hm⟩ he hx => OpSpec.loadP ho ha hm he (by rw [← hr]; exact hu.rb) hx
        refine pao [.v (.ms L2.tid L2.tv 0 s3.tens.length 1 false), .v .top, .v (.int .i64 t.num), .k (.int .i64 (m : Nat))] rfl ?_ ?_
        · (repeat' with_reducible apply AllP_cons) <;> try exact aC
          · exact hro h3 hr2 rfl rfl ⟨_, rfl⟩ rfl rfl
          · exact OpSpec.loadE rfl rfl rfl rfl h3.tb htx
        refine S_drawO 15 [.ms L2.jid L2.jv 0 s3.jobs.length 3 false, .top, .int .i64 j.cost, .ms L2.cid L2.cv 0 s3.creds.length 1 false, .top, .int .i64 c] rfl rfl rfl rfl ?_ ?_
        · (repeat' with_reducible apply AllP_cons) <;> try exact aC
          · exact hro h3 hr2 rfl rfl ⟨_, rfl⟩ rfl rfl
          · exact OpSpec.loadE rfl rfl rfl rfl h3.jb hjx
          · exact hro h3 hr2 rfl rfl ⟨_, rfl⟩ rfl rfl
          · exact OpSpec.loadE rfl rfl rfl rfl h3.cb hcx
        have hsim3 := hsim2.cred c true
        rw [show (⟨s2.tens, c :: r.map QT.cred, true, s2.jobs⟩ : RS) = s3 from hs3.symm] at hsim3
        by_cases hcc : j.cost ≤ c
        · have d1 : decide (j.cost ≤ c) = true := decide_eq_true hcc
          have hw : IntKind.i64.wrap (c - j.cost) = c - j.cost := by
            rw [show c - j.cost = (((c - j.cost).toNat : Nat) : Int) by omega]
            exact w64 rfl (by omega)
          obtain ⟨s4, hs4⟩ : ∃ s4 : RS, s4 = ⟨s3.tens, (c - j.cost) :: r.map QT.cred, true, s3.jobs⟩ := ⟨_, rfl⟩
          obtain ⟨C4, hC4⟩ : ∃ C4 : Nat × Option Box, C4 = (L2.cv, some (.cells (intC ((c - j.cost) :: r.map QT.cred)) ⟨false, none⟩)) := ⟨_, rfl⟩
          have h4 : RAt (σ3.set L2.cid C4) L2 quan s4 := by
            rw [hC4, hs4]
            have := h3.setC (cs := (c - j.cost) :: r.map QT.cred) (by rw [hC3]; rfl)
            rw [show s3.turn = true by rw [hs3]] at this
            exact this
          have hk4 := hk3.trans (keepO (x := C4) (L := L2) (.inr (.inr (.inl rfl))))
          have hz4 : (σ3.set L2.cid C4)[σ.length]? = some z0 := by rw [set_ne (fun e => hnoL hk3 (.inr (.inr (.inl e))))]; exact hz3
          refine pao [.b true] rfl ?_ ?_
          · (repeat' with_reducible apply AllP_cons) <;> try exact aC
          refine S_drawO 15 [.ms L2.cid L2.cv 0 s3.creds.length 1 false, .top, .int .i64 c, .ms L2.jid L2.jv 0 s3.jobs.length 3 false, .top, .int .i64 j.cost] rfl rfl rfl rfl ?_ ?_
          · (repeat' with_reducible apply AllP_cons) <;> try exact aC
            · exact hro h3 hr2 rfl rfl ⟨_, rfl⟩ rfl rfl
            · exact OpSpec.loadE rfl rfl rfl rfl h3.cb hcx
            · exact hro h3 hr2 rfl rfl ⟨_, rfl⟩ rfl rfl
            · exact OpSpec.loadE rfl rfl rfl rfl h3.jb hjx
          refine pao [.v .top, .f (.tup []) (fun u => u.set L2.cid C4)] rfl ?_ ?_
          · (repeat' with_reducible apply AllP_cons) <;> try exact aC
            · refine OpSpec.storeX (id := L2.cid) (off := 0) (cs := intC s3.creds) (y := .int .i64 (c - j.cost)) rfl rfl rfl ?_ rfl rfl h3.cb (by rw [intC_len, hC3]; exact Nat.succ_le_succ (Nat.zero_le _)) ?_
              · show AV.int .i64 (IntKind.i64.wrap (c - j.cost)) = _
                rw [hw]
              · rw [hC4, hC3]; rfl
          refine S_heap (σ3.set L2.cid C4) rfl ?_
          generalize σ3.set L2.cid C4 = σ4 at *
          have hm4 : m < s4.jobs.length := by rw [hs4]; show m < s3.jobs.length; omega
          have hsim4 : Sim (⟨t.num, c - j.cost, true, t.jobs⟩ :: r) s4 := by
            have := hsim3.cred (c - j.cost) true
            rw [show (⟨s3.tens, (c - j.cost) :: r.map QT.cred, true, s3.jobs⟩ : RS) = s4 from hs4.symm] at this
            exact this
          have hok4 : QOk quan (⟨t.num, c - j.cost, true, t.jobs⟩ :: r) := by
            refine ⟨hok2.q1, fun x hx => ?_, fun x hx => ?_, fun x hx => ?_, fun x hx => hok2.tl x hx, hok2.mn⟩
            · rcases List.mem_cons.1 hx with rfl | hx
              · exact hok2.ne t (List.mem_cons_self ..)
              · exact hok2.ne x (List.mem_cons_of_mem _ hx)
            · rcases List.mem_cons.1 hx with rfl | hx
              · exact ⟨by show 0 ≤ c - j.cost; omega, by show c - j.cost ≤ 1999; omega, fun h => by cases h⟩
              · exact hok2.cr x (List.mem_cons_of_mem _ hx)
            · rcases List.mem_cons.1 hx with rfl | hx
              · exact hok2.co t (List.mem_cons_self ..)
              · exact hok2.co x (List.mem_cons_of_mem _ hx)
          obtain ⟨q1, q2, q3⟩ := hsim4.len hok4
          have hmj4 : s4.jobs[m] = j := by
            rw [← hmj3]; simp only [hs4]
          have htk := rtake_ok σ4 L2 quan s4 m h4 hm4 q1 q3 q2 hsim4.nd (hsim4.mem _ (List.getElem_mem hm4))
          rw [hmj4, hr2] at htk
          have hk00 : 0 < ((⟨t.num, c - j.cost, true, t.jobs⟩ :: r : List QT)[0]'(Nat.zero_lt_succ _)).jobs.length := by
            show 0 < t.jobs.length
            rw [hj]; exact Nat.zero_lt_succ _
          have hst := hsim4.take hok4 (i := 0) (k := 0) (m := m) (Nat.zero_lt_succ _) hk00 hm4 (by rw [hmj4]; simp [hj])
          have hnx : nxtQ quan ring = (some j, takR (⟨t.num, c - j.cost, true, t.jobs⟩ :: r) 0 0) := by
            rw [← hnf, nxtF]
            simp only [hj]
            rw [← hc, if_pos hcc]
          refine S_call rfl rfl rfl htk (fun v' σ' hv => ?_) (fun v' σ' hv => ?_)
          case _ =>
            obtain ⟨e1, L', h6, hr6, hk6⟩ := hv
            cases e1
            have hk6' := hk4.trans hk6
            have hz6 : σ'[σ.length]? = some z0 := by rw [hk6.same _ (lt_of_get hz4) (hnoL hk4)]; exact hz4
            obtain ⟨zj, hzj⟩ : ∃ zj : Nat × Option Box, zj = (0, some (.cells j.cells ⟨false, some 34⟩)) := ⟨_, rfl⟩
            refine pao [.f (.tup []) (fun u => u.set σ.length zj)] rfl ?_ ?_
            · (repeat' with_reducible apply AllP_cons) <;> try exact aC
              · exact OpSpec.storeP (id := σ.length) (gT := some 34) (cs := [.int .i64 0, .str [], .int .i64 0]) (y := jobA j) rfl rfl rfl rfl rfl rfl (by rw [hz6, hz0]) (lble rfl) (by rw [hzj]; rfl)
            rw [hnx]
            refine S_ret (ret_c2 (id := σ.length) (off := 0) (cur := 0) (cs := j.cells) (g := ⟨false, some 34⟩) rfl rfl ?_ rfl rfl ⟨rfl, L', _, ?_, hst, hr6, ?_⟩)
            · show (List.set σ' σ.length zj)[σ.length]? = _
              rw [set_eq hz6, hzj]
            · exact h6.mono (Alive.set' h6.al (by rw [hzj]; exact ⟨_, rfl⟩) _) fun id ho => set_ne fun e => hnoL hk6' (e ▸ ho)
            · exact (hka.trans hk6').set (Nat.le_refl _) _
          case _ =>
            obtain ⟨e1, _⟩ := hv
            cases e1
        · have d1 : decide (j.cost ≤ c) = false := decide_eq_false hcc
          obtain ⟨R5, hR5⟩ : ∃ R5 : Nat × Option Box, R5 = (0, some (rsB quan L2 ⟨s3.tens, s3.creds, false, s3.jobs⟩)) := ⟨_, rfl⟩
          have h5 := h3.setTurn false
          rw [← hR5] at h5
          have hk5 := hk3.trans (keepO (x := R5) (L := L2) (.inl rfl))
          have hz5 : (σ3.set L2.r R5)[σ.length]? = some z0 := by rw [set_ne (fun e => hnoL hk3 (.inl e))]; exact hz3
          refine pao [.b false, .f (.tup []) (fun u => u.set L2.r R5)] rfl ?_ ?_
          · (repeat' with_reducible apply AllP_cons) <;> try exact aC
            · refine OpSpec.storeP (id := L2.r) (gT := some 48) (cs := rsC quan L2 s3 false) (y := .bool false) rfl rfl (by rw [hr2]; rfl) rfl rfl rfl h3.rb (lble rfl) ?_
              rw [hR5]; rfl
          refine S_heap (σ3.set L2.r R5) rfl ?_
          generalize σ3.set L2.r R5 = σ5 at *
          have hrot := hok2.rot hj (by rw [← hc]; exact hcc)
          have hre : rested quan t = ⟨t.num, c, false, t.jobs⟩ := by unfold rested; rw [← hc]
          rw [hre] at hrot
          have hsr := hsim2.rot hok2 c
          have hln : (r.map QT.num ++ [t.num]).length = s3.tens.length - 1 + 1 := by rw [hT3]; simp
          have hln7 : (r.map QT.cred ++ [c]).length = s3.creds.length - 1 + 1 := by rw [hC3]; simp
          have hone1 : ∀ x : Int, ∀ y ∈ [AV.int .i64 x], y.one = true := fun x y hy => by rw [List.mem_singleton.1 hy]; rfl
          have hT5 : 1 ≤ s3.tens.length := by rw [hT3]; exact Nat.succ_le_succ (Nat.zero_le _)
          have hC5 : 1 ≤ s3.creds.length := by rw [hC3]; exact Nat.succ_le_succ (Nat.zero_le _)
          have htl3 : s3.tens.length ≤ 200 := by rw [hs3]; exact l2
          have hcl3 : s3.creds.length ≤ 200 := by rw [hC3]; rw [hCr] at l3; simp only [List.length_cons] at *; omega
          obtain ⟨X6, hX6⟩ : ∃ X6 : Nat × Option Box, X6 = (0, some (.cells (intC (r.map QT.num ++ [t.num])) ⟨false, none⟩)) := ⟨_, rfl⟩
          obtain ⟨L6, hL6⟩ : ∃ L6 : RL, L6 = ⟨L2.r, σ5.length, L2.cid, L2.jid, 0, L2.cv, L2.jv⟩ := ⟨_, rfl⟩
          obtain ⟨R6, hR6⟩ : ∃ R6 : Nat × Option Box, R6 = (0, some (rsB quan L6 ⟨r.map QT.num ++ [t.num], s3.creds, false, s3.jobs⟩)) := ⟨_, rfl⟩
          have h6 := h5.newT (ts := r.map QT.num ++ [t.num]) hL6
          rw [← hX6] at h6
          rw [show ((0, some (rsB quan L6 ⟨r.map QT.num ++ [t.num], s3.creds, false, s3.jobs⟩)) : Nat × Option Box) = R6 from hR6.symm] at h6
          have hk6 : QKeep σ5 ((σ5 ++ [X6]).set L2.r R6) (OwnR L2) (OwnR L6) := keepN (.inl rfl) fun id ho => by
            rw [hL6] at ho
            rcases ho with h' | h' | h' | h'
            · exact .inl (.inl h')
            · exact .inr h'
            · exact .inl (.inr (.inr (.inl h')))
            · exact .inl (.inr (.inr (.inr h')))
          have hlt5 := lt_of_get hz5
          have hz6 : ((σ5 ++ [X6]).set L2.r R6)[σ.length]? = some z0 := by rw [hk6.same _ hlt5 (hnoL hk5)]; exact hz5
          refine S_drawOC (σ5 ++ [X6]) 23 24 [.ms L2.tid L2.tv 0 s3.tens.length 1 false, .ms L2.tid L2.tv 0 s3.tens.length 1 false, .ms L2.tid L2.tv 0 s3.tens.length 1 false, .ms L2.tid L2.tv 0 s3.tens.length 1 false, .top, .int .i64 t.num, .ms σ5.length 0 0 (r.map QT.num ++ [t.num]).length 1 false] rfl rfl rfl rfl (fun u => rfl) (fun u hu => ?_) (fun o v ho hv => ?_) ?_
          · have hur : u[L2.r]? = some (0, some (rsB quan L2 ⟨s3.tens, s3.creds, false, s3.jobs⟩)) := by
              rcases hu with rfl | rfl
              · exact h5.rb
              · exact app_get h5.rb
            have hut : u[L2.tid]? = some (L2.tv, some (.cells (intC s3.tens) ⟨false, none⟩)) := by
              rcases hu with rfl | rfl
              · exact h5.tb
              · exact app_get h5.tb
            (repeat' with_reducible apply AllP_cons) <;> try exact aC
            all_goals first | exact OpSpec.loadP rfl rfl rfl (by rw [← hr2]; rfl) hur rfl | exact OpSpec.loadE rfl rfl rfl rfl hut htx
          · cases ho; cases hv
            refine specC_step rfl rfl ?_
            rw [hX6, hln]
            exact OpSpec.appendF (e := 3) (id := L2.tid) (ver := L2.tv) (off := 1) (len := s3.tens.length - 1) (m := 1) (sz := 1) (cs := intC s3.tens) (ys := [.int .i64 t.num]) (g := ⟨false, none⟩) (C := [1 = 1, ∀ y ∈ [AV.int .i64 t.num], y.one = true]) rfl rfl rfl (by exact cutA L2.tid L2.tv _ hT5) rfl rfl ⟨rfl, hone1 _, trivial⟩ (hone1 _) (.inl (by decide)) h5.al h5.tb (by rw [intC_len]; omega) (by show (s3.tens.length - 1 + 1) * 8 ≤ _; omega) (by omega) (by
              rw [hT3, List.length_cons, Nat.add_sub_cancel, Nat.mul_one]
              show (intC (r.map QT.num)).take (r.map QT.num).length ++ [AV.int .i64 t.num] = _
              rw [List.take_of_length_le (by rw [intC_len]; exact Nat.le_refl _), intC_app]; rfl)
          refine pao [.f (.tup []) (fun u => u.set L2.r R6)] rfl ?_ ?_
          · (repeat' with_reducible apply AllP_cons) <;> try exact aC
            · refine OpSpec.storeP (id := L2.r) (gT := some 48) (cs := rsC quan L2 ⟨s3.tens, s3.creds, false, s3.jobs⟩ false) (y := .ms σ5.length 0 0 (r.map QT.num ++ [t.num]).length 1 false) rfl rfl (by rw [hr2]; rfl) rfl rfl rfl (app_get h5.rb) (lble rfl) ?_
              rw [hR6, hL6]; rfl
          refine S_heap ((σ5 ++ [X6]).set L2.r R6) rfl ?_
          have hr6 : L6.r = L.r := by rw [hL6]; exact hr2
          have hk6' := hk5.trans hk6
          generalize (σ5 ++ [X6]).set L2.r R6 = σ6 at *
          have hcx6 : ((intC s3.creds).drop (offN 0 (mulN ((0 : Int)).toNat 1)))[0]? = some (.int .i64 c) := hcx
          obtain ⟨X7, hX7⟩ : ∃ X7 : Nat × Option Box, X7 = (0, some (.cells (intC (r.map QT.cred ++ [c])) ⟨false, none⟩)) := ⟨_, rfl⟩
          obtain ⟨L7, hL7⟩ : ∃ L7 : RL, L7 = ⟨L6.r, L6.tid, σ6.length, L6.jid, L6.tv, 0, L6.jv⟩ := ⟨_, rfl⟩
          obtain ⟨R7, hR7⟩ : ∃ R7 : Nat × Option Box, R7 = (0, some (rsB quan L7 ⟨r.map QT.num ++ [t.num], r.map QT.cred ++ [c], false, s3.jobs⟩)) := ⟨_, rfl⟩
          have h7 := h6.newC (cs := r.map QT.cred ++ [c]) hL7
          rw [← hX7] at h7
          rw [show ((0, some (rsB quan L7 ⟨r.map QT.num ++ [t.num], r.map QT.cred ++ [c], false, s3.jobs⟩)) : Nat × Option Box) = R7 from hR7.symm] at h7
          have hk7 : QKeep σ6 ((σ6 ++ [X7]).set L6.r R7) (OwnR L6) (OwnR L7) := keepN (.inl rfl) fun id ho => by
            rw [hL7] at ho
            rcases ho with h' | h' | h' | h'
            · exact .inl (.inl h')
            · exact .inl (.inr (.inl h'))
            · exact .inr h'
            · exact .inl (.inr (.inr (.inr h')))
          have hz7 : ((σ6 ++ [X7]).set L6.r R7)[σ.length]? = some z0 := by rw [hk7.same _ (lt_of_get hz6) (hnoL hk6')]; exact hz6
          refine S_drawOC (σ6 ++ [X7]) 23 24 [.ms L6.cid L6.cv 0 s3.creds.length 1 false, .ms L6.cid L6.cv 0 s3.creds.length 1 false, .ms L6.cid L6.cv 0 s3.creds.length 1 false, .ms L6.cid L6.cv 0 s3.creds.length 1 false, .top, .int .i64 c, .ms σ6.length 0 0 (r.map QT.cred ++ [c]).length 1 false] rfl rfl rfl rfl (fun u => rfl) (fun u hu => ?_) (fun o v ho hv => ?_) ?_
          · have hur : u[L6.r]? = some (0, some (rsB quan L6 ⟨r.map QT.num ++ [t.num], s3.creds, false, s3.jobs⟩)) := by
              rcases hu with rfl | rfl
              · exact h6.rb
              · exact app_get h6.rb
            have hut : u[L6.cid]? = some (L6.cv, some (.cells (intC s3.creds) ⟨false, none⟩)) := by
              rcases hu with rfl | rfl
              · exact h6.cb
              · exact app_get h6.cb
            (repeat' with_reducible apply AllP_cons) <;> try exact aC
            all_goals first | exact OpSpec.loadP rfl rfl rfl (by rw [← hr6]; rfl) hur rfl | exact OpSpec.loadE rfl rfl rfl rfl hut hcx6
          · cases ho; cases hv
            refine specC_step rfl rfl ?_
            rw [hX7, hln7]
            exact OpSpec.appendF (e := 3) (id := L6.cid) (ver := L6.cv) (off := 1) (len := s3.creds.length - 1) (m := 1) (sz := 1) (cs := intC s3.creds) (ys := [.int .i64 c]) (g := ⟨false, none⟩) (C := [1 = 1, ∀ y ∈ [AV.int .i64 c], y.one = true]) rfl rfl rfl (by exact cutA L6.cid L6.cv _ hC5) rfl rfl ⟨rfl, hone1 _, trivial⟩ (hone1 _) (.inl (by decide)) h6.al h6.cb (by rw [intC_len]; omega) (by show (s3.creds.length - 1 + 1) * 8 ≤ _; omega) (by omega) (by
              rw [hC3, List.length_cons, Nat.add_sub_cancel, Nat.mul_one]
              show (intC (r.map QT.cred)).take (r.map QT.cred).length ++ [AV.int .i64 c] = _
              rw [List.take_of_length_le (by rw [intC_len]; exact Nat.le_refl _), intC_app]; rfl)
          refine pao [.f (.tup []) (fun u => u.set L6.r R7)] rfl ?_ ?_
          · (repeat' with_reducible apply AllP_cons) <;> try exact aC
            · refine OpSpec.storeP (id := L6.r) (gT := some 48) (cs := rsC quan L6 ⟨r.map QT.num ++ [t.num], s3.creds, false, s3.jobs⟩ false) (y := .ms σ6.length 0 0 (r.map QT.cred ++ [c]).length 1 false) rfl rfl (by rw [hr6]; rfl) rfl rfl rfl (app_get h6.rb) (lble rfl) ?_
              rw [hR7, hL7]; rfl
          refine S_round (((σ6 ++ [X7]).set L6.r R7, L7, ⟨r.map QT.num ++ [t.num], r.map QT.cred ++ [c], false, s3.jobs⟩), r ++ [⟨t.num, c, false, t.jobs⟩]) hrot.2 ⟨h7, by rw [hL7]; exact hr6, hk6'.trans hk7, hz7, ?_, hrot.1, f, ?_, ?_⟩ (.cons rfl (.cons rfl (.nil _))) rfl
          · rw [hJ3]; exact hsr
          · have := hrot.2
            show mQ (r ++ [⟨t.num, c, false, t.jobs⟩]) < f
            omega
          · rw [← hnf]
            show nxtF f quan (r ++ [⟨t.num, c, false, t.jobs⟩]) = _
            conv => rhs; rw [nxtF]
            simp only [hj]
            rw [← hc, if_neg hcc]
end Go.Proofs.Ytjaflkgfipaajaa
end
section
set_option linter.unusedVariables false
set_option linter.unusedSimpArgs false
set_option maxRecDepth 20000
namespace Go.Proofs.Ytjaflkgfipaajaa
open Go Go.Ab
def texts (l : List (List UInt8)) : List AV := l.map .str
theorem texts_one (l : List (List UInt8)) : ∀ x ∈ texts l, x.one = true := by
  intro x hx
  obtain ⟨y, _, rfl⟩ := List.mem_map.1 hx
  rfl
theorem texts_any {st : Bool} (l : List (List UInt8)) : ∀ x ∈ texts l, Free st x := by
  intro x hx
  obtain ⟨y, _, rfl⟩ := List.mem_map.1 hx
  exact .str
theorem texts_len (l : List (List UInt8)) : (texts l).length = l.length := by simp [texts]
end Go.Proofs.Ytjaflkgfipaajaa
end
section
set_option linter.unusedVariables false
set_option linter.unusedSimpArgs false
set_option maxRecDepth 20000
namespace Go.Proofs.Ytjaflkgfipaajaa
open Go Go.Ab
theorem SameTexts_ok {st st' fl fl' : Bool} (a b : List (List UInt8)) (hl : a.length ≤ 9223372036854775806) (hb : b.length ≤ 9223372036854775807) : Calc cx 19 [.sl st fl 1 (texts a), .sl st' fl' 1 (texts b)] (.bool (a == b)) :=
  pure_intro (fun a w => Try.call19 a w) Try.func19 rfl Try.ntmps19 rfl .bool fun B => by
    refine ab 1000 rfl trivial ?_
    refine S_bne rfl (fun h => ?_) (fun h => ?_)
    · refine ab 1000 rfl trivial ?_
      refine S_retc .bool rfl trivial ?_
      have hne : a ≠ b := by
        intro e; subst e; exact h rfl
      rw [show (a == b) = false by simpa using hne]; rfl
    · have hlen : a.length = b.length := by simp [texts] at h; omega
      refine ab 1000 rfl trivial ?_
      refine S_while (α := Nat) (fun i => [(0, .sl st fl 1 (texts a)), (1, .sl st' fl' 1 (texts b)), (5, .int .i64 i)]) (fun _ => []) (fun i => i ≤ a.length ∧ a.take i = b.take i) (fun i => a.length - i) 0
        ⟨by simp, by simp⟩ (.cons rfl (.cons rfl (.cons rfl (.nil _)))) rfl ?_
      rintro i ⟨hi, hN⟩
      refine ab 1000 rfl trivial ?_
      refine S_dec rfl (fun h => ?_) (fun h => ?_)
      · have hil : i < a.length := by simp [texts] at h; omega
        have hil' : i < b.length := by omega
        refine ab 1000 rfl trivial ?_
        refine S_draw 9 [] [.str a[i], .str b[i]] rfl rfl rfl rfl ⟨rfl, rfl, rfl, by omega, by simp [texts, List.getElem?_eq_getElem hil], rfl, rfl, rfl, rfl, by omega, by simp [texts, List.getElem?_eq_getElem hil'], rfl, rfl, trivial⟩ ?_
        refine ab 1000 rfl trivial ?_
        refine S_cond rfl (fun h => ?_) (fun h => ?_)
        · have hne : a[i] ≠ b[i] := by simpa using h
          refine ab 1000 rfl trivial ?_
          refine S_retc .bool rfl trivial ?_
          have hne : a ≠ b := by
            intro e; subst e; exact hne rfl
          rw [show (a == b) = false by simpa using hne]; rfl
        · have he : a[i] = b[i] := by simpa using h
          refine ab 1000 rfl trivial ?_
          refine S_round (i + 1) (by show a.length - (i + 1) < a.length - i; omega) ⟨hil, ?_⟩ (.cons rfl (.cons rfl (.cons (ai64 rfl (by omega)) (.nil _)))) rfl
          rw [List.take_succ_eq_append_getElem hil, List.take_succ_eq_append_getElem hil', hN, he]
      · have hil : i = a.length := by simp [texts] at h; omega
        refine ab 1000 rfl trivial ?_
        refine S_retc .bool rfl trivial ?_
        have he : a = b := by
          rw [← List.take_of_length_le (l := a) (i := i) (by omega), ← List.take_of_length_le (l := b) (i := i) (by omega)]; exact hN
        rw [show (a == b) = true by simpa using he]; rfl
end Go.Proofs.Ytjaflkgfipaajaa
end
