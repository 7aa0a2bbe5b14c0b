/-
  Texts of our own, in one file.
-/
import Derived.Test.YtjaflkgfipaajaaGrpC
import Derived.WideShapes
section
set_option linter.unusedVariables false
set_option linter.unusedSimpArgs false
set_option maxRecDepth 20000
set_option maxHeartbeats 2000000
namespace Go.Proofs.Ytjaflkgfipaajaa
open Go Go.Ab
def nxtF : Nat → Int → List QT → Option QJ × List QT
  | 0, _, ring => (none, ring)
  | _ + 1, _, [] => (none, [])
  | f + 1, quan, t :: r => match t.jobs with
    | [] => (none, t :: r)
    | j :: _ => if j.cost ≤ (if t.turn = true then t.cred else t.cred + quan) then (some j, takR (⟨t.num, (if t.turn = true then t.cred else t.cred + quan) - j.cost, true, t.jobs⟩ :: r) 0 0)
      else nxtF f quan (r ++ [⟨t.num, (if t.turn = true then t.cred else t.cred + quan), false, t.jobs⟩])
def costQ (t : QT) : Int := match t.jobs with | [] => 0 | j :: _ => j.cost
def farQ : List QT → Nat
  | [] => 0
  | t :: r => (costQ t - t.cred).toNat + farQ r
def mQ (ring : List QT) : Nat := 2 * farQ ring + match ring with | [] => 0 | t :: _ => if t.turn = true then 1 else 0
structure QOk (quan : Int) (ring : List QT) : Prop where
  q1 : 1 ≤ quan ∧ quan ≤ 1000
  ne : ∀ t ∈ ring, t.jobs ≠ []
  cr : ∀ t ∈ ring, 0 ≤ t.cred ∧ t.cred ≤ 1999 ∧ (t.turn = false → t.cred ≤ 999)
  co : ∀ t ∈ ring, ∀ j ∈ t.jobs, 1 ≤ j.cost ∧ j.cost ≤ 1000
  tl : ∀ t ∈ ring.tail, t.turn = false
  mn : manyQ ring ≤ 200
theorem QOk.len {quan : Int} {ring : List QT} (h : QOk quan ring) : ring.length ≤ 200 := by
  have : ∀ l : List QT, (∀ t ∈ l, t.jobs ≠ []) → l.length ≤ manyQ l := by
    intro l
    induction l with
    | nil => intro _; exact Nat.le_refl _
    | cons x r ih =>
      intro hl
      have h1 := ih fun t ht => hl t (List.mem_cons_of_mem _ ht)
      have h2 := List.length_pos_iff.2 (hl x (List.mem_cons_self ..))
      rw [List.length_cons, manyQ]; omega
  have := this ring h.ne
  have := h.mn
  omega
theorem far_app (a b : List QT) : farQ (a ++ b) = farQ a + farQ b := by
  induction a with
  | nil => simp [farQ]
  | cons x r ih => rw [List.cons_append, farQ, farQ, ih]; omega
def turned (quan : Int) (t : QT) : QT := ⟨t.num, if t.turn = true then t.cred else t.cred + quan, true, t.jobs⟩
def rested (quan : Int) (t : QT) : QT := ⟨t.num, if t.turn = true then t.cred else t.cred + quan, false, t.jobs⟩
theorem QOk.rot {quan : Int} {t : QT} {r : List QT} {j : QJ} {js : List QJ} (h : QOk quan (t :: r)) (hj : t.jobs = j :: js) (hc : ¬ j.cost ≤ (if t.turn = true then t.cred else t.cred + quan)) : QOk quan (r ++ [rested quan t]) ∧ mQ (r ++ [rested quan t]) < mQ (t :: r) := by
  obtain ⟨c1, c2, c3⟩ := h.cr t (List.mem_cons_self ..)
  obtain ⟨d1, d2⟩ := h.co t (List.mem_cons_self ..) j (by rw [hj]; exact List.mem_cons_self ..)
  have hq := h.q1
  have htl : ∀ x ∈ r, x.turn = false := fun x hx => h.tl x hx
  refine ⟨⟨h.q1, fun x hx => ?_, fun x hx => ?_, fun x hx => ?_, fun x hx => ?_, ?_⟩, ?_⟩
  · rcases List.mem_append.1 hx with hx | hx
    · exact h.ne x (List.mem_cons_of_mem _ hx)
    · rw [List.mem_singleton.1 hx]; exact h.ne t (List.mem_cons_self ..)
  · rcases List.mem_append.1 hx with hx | hx
    · exact h.cr x (List.mem_cons_of_mem _ hx)
    · rw [List.mem_singleton.1 hx]
      show 0 ≤ (if t.turn = true then t.cred else t.cred + quan) ∧ (if t.turn = true then t.cred else t.cred + quan) ≤ 1999 ∧ (_ → (if t.turn = true then t.cred else t.cred + quan) ≤ 999)
      split at hc <;> rename_i ht
      · simp only [if_pos ht]; omega
      · simp only [if_neg ht]; omega
  · rcases List.mem_append.1 hx with hx | hx
    · exact h.co x (List.mem_cons_of_mem _ hx)
    · rw [List.mem_singleton.1 hx]; exact h.co t (List.mem_cons_self ..)
  · have hx := List.mem_of_mem_tail hx
    rcases List.mem_append.1 hx with hx | hx
    · exact htl x hx
    · rw [List.mem_singleton.1 hx]; rfl
  · have := h.mn
    rw [many_app]
    rw [manyQ] at this
    show manyQ r + (t.jobs.length + 0) ≤ 200
    omega
  · have hco : costQ t = j.cost := by unfold costQ; rw [hj]
    have hco2 : costQ (rested quan t) = j.cost := by unfold costQ rested; rw [hj]
    have hht : (match r ++ [rested quan t] with | [] => 0 | x :: _ => if x.turn = true then 1 else 0) = 0 := by
      cases r with
      | nil => rfl
      | cons x r' => show (if x.turn = true then 1 else 0) = 0; rw [htl x (List.mem_cons_self ..)]; rfl
    unfold mQ
    rw [hht, far_app, farQ, farQ, farQ, hco, hco2]
    show 2 * (farQ r + ((j.cost - (if t.turn = true then t.cred else t.cred + quan)).toNat + 0)) + 0 < 2 * ((j.cost - t.cred).toNat + farQ r) + if t.turn = true then 1 else 0
    split at hc <;> rename_i ht
    · simp only [if_pos ht]; omega
    · simp only [if_neg ht]; omega
def nxtQ (quan : Int) (ring : List QT) : Option QJ × List QT := nxtF (mQ ring + 1) quan ring
theorem QAt.cred {σ : Heap} {q rid rv : Nat} {es : List QL} {quan : Int} {ring : List QT} (h : QAt σ q rid rv es quan ring) {i : Nat} (hi : i < es.length) (hi2 : i < ring.length) (t' : QT) (hj : t'.jobs = ring[i].jobs) :
    QAt (σ.set es[i].tid (0, some (tnB t' es[i]))) q rid rv es quan (ring.set i t') := by
  obtain ⟨a1, a2, a3, a4, a5⟩ := h.ap.one hi
  obtain ⟨k1, k2⟩ := h.tn.get i hi hi2
  have hm := many_set (t := t') hi2
  rw [hj] at hm
  refine ⟨Alive.set h.al _ _ _, ?_, ?_, ?_, h.ap⟩
  · rw [set_ne (Ne.symm a1), h.qb]
    unfold quB
    rw [List.length_set, show manyQ (ring.set i t') = manyQ ring by omega]
  · rw [set_ne (Ne.symm a3)]; exact h.rb
  · have hself : es.set i es[i] = es := List.set_getElem_self hi
    have := h.tn.put (σ' := σ.set es[i].tid (0, some (tnB t' es[i]))) i hi es[i] t' (set_eq k1) (by rw [set_ne (Ne.symm a5), hj]; exact k2) (fun j hj hne => by
      obtain ⟨c1, c2, c3, c4⟩ := h.ap.two hj hi hne
      exact ⟨set_ne c1, set_ne c4⟩)
    rw [hself] at this
    exact this
theorem QAt.credK {σ : Heap} {q rid : Nat} {es : List QL} {i : Nat} (hi : i < es.length) {x : Nat × Option Box} : QKeep σ (σ.set es[i].tid x) (Own q rid es) (Own q rid es) :=
  ⟨by simp, fun id hid hno => set_ne fun e => hno (.inr (.inr ⟨_, List.getElem_mem hi, .inl e⟩)), fun id h => .inl h⟩
theorem QAt.rot {σ : Heap} {q rid rv : Nat} {e : QL} {es : List QL} {quan : Int} {t : QT} {r : List QT} (h : QAt σ q rid rv (e :: es) quan (t :: r)) :
    QAt ((σ.set rid (rv + 1, some (.cells ((rgC (e :: es)).drop 1 ++ [AV.ptr e.tid 0 0]) ⟨false, none⟩))).set q (0, some (quB quan rid (rv + 1) (t :: r)))) q rid (rv + 1) (es ++ [e]) quan (r ++ [t]) := by
  have hqr := h.ap.qr
  refine ⟨Alive.set (Alive.set h.al _ _ _) _ _ _, ?_, ?_, ?_, h.ap.rot⟩
  · have h1 : (σ.set rid (rv + 1, some (.cells ((rgC (e :: es)).drop 1 ++ [AV.ptr e.tid 0 0]) ⟨false, none⟩)))[q]? = some (0, some (quB quan rid rv (t :: r))) := by rw [set_ne hqr]; exact h.qb
    rw [set_eq h1]
    unfold quB
    rw [many_app, manyQ, manyQ, manyQ, List.length_append, List.length_cons]
    rw [show manyQ r + (t.jobs.length + 0) = t.jobs.length + manyQ r by omega]
    rfl
  · rw [set_ne (Ne.symm hqr), set_eq h.rb]
    unfold rgC
    rw [List.map_append]; rfl
  · cases h.tn with
    | cons h1 h2 h3 =>
      refine (h3.snoc h1 h2).keep fun x hx => ?_
      have hxm : x ∈ e :: es := by
        rcases List.mem_append.1 hx with hx | hx
        · exact List.mem_cons_of_mem _ hx
        · rw [List.mem_singleton.1 hx]; exact List.mem_cons_self ..
      obtain ⟨a1, a2, a3, a4, a5⟩ := h.ap.at_ x.ids (List.mem_map_of_mem hxm)
      exact ⟨by rw [set_ne (show x.tid ≠ q from a1), set_ne (show x.tid ≠ rid from a3)], by rw [set_ne (show x.jid ≠ q from a2), set_ne (show x.jid ≠ rid from a4)]⟩
theorem QAt.rotK {σ : Heap} {q rid : Nat} {e : QL} {es : List QL} {x y : Nat × Option Box} : QKeep σ ((σ.set rid x).set q y) (Own q rid (e :: es)) (Own q rid (es ++ [e])) := by
  refine ⟨by simp, fun id hid hno => ?_, fun id hid => .inl ?_⟩
  · rw [set_ne (fun e => hno (.inl e)), set_ne (fun e => hno (.inr (.inl e)))]
  · rcases hid with h1 | h1 | ⟨z, hz, h1⟩
    · exact .inl h1
    · exact .inr (.inl h1)
    · refine .inr (.inr ⟨z, ?_, h1⟩)
      rcases List.mem_append.1 hz with hz | hz
      · exact List.mem_cons_of_mem _ hz
      · rw [List.mem_singleton.1 hz]; exact List.mem_cons_self ..
end Go.Proofs.Ytjaflkgfipaajaa
end
section
set_option linter.unusedVariables false
set_option linter.unusedSimpArgs false
set_option maxRecDepth 20000
set_option maxHeartbeats 2000000
namespace Go.Proofs.Ytjaflkgfipaajaa
open Go Go.Ab
def job0 : QJ := ⟨0, [], 0⟩
def nxA (p : Option QJ × List QT) : AV := match p.1 with | some j => .tup [jobA j, .bool true] | none => .tup [jobA job0, .bool false]
theorem Next_ok (σ : Heap) (q rid rv : Nat) (es : List QL) (quan : Int) (ring : List QT) (h : QAt σ q rid rv es quan ring) (hok : QOk quan ring) :
    CallOk cx 12 [.ptr q 0 0] σ (fun o s => o = .ret (nxA (nxtQ quan ring)) ∧ ∃ rv' es', QAt s q rid rv' es' quan (nxtQ quan ring).2 ∧ QKeep σ s (Own q rid es) (Own q rid es')) :=
  callOk_intro (fun a w => Try.call12 a w) Try.func12 rfl Try.ntmps12 rfl fun B => by
    obtain ⟨z0, hz0⟩ : ∃ z0 : Nat × Option Box, z0 = (0, some (.cells [.int .i64 0, .str [], .int .i64 0] ⟨false, some 34⟩)) := ⟨_, rfl⟩
    have h1 : QAt (σ ++ [z0]) q rid rv es quan ring := by rw [hz0]; exact h.app _ _
    refine pao [.f (.ptr σ.length 0 0) (fun s => s ++ [z0])] rfl ?_ ?_
    · (repeat' with_reducible apply AllP_cons) <;> try exact aC
      · rw [hz0]; exact OpSpec.allocE rfl rfl rfl rfl h.al
    have hq0 := lt_of_get h.qb
    have hr0 := lt_of_get h.rb
    have hqr := h.ap.qr
    refine S_while (α := Heap × Nat × List QL × List QT) (fun _ => [(0, .ptr q 0 0), (2, .ptr σ.length 0 0)]) (fun s => s.1)
      (fun s => QAt s.1 q rid s.2.1 s.2.2.1 quan s.2.2.2 ∧ QKeep σ s.1 (Own q rid es) (Own q rid s.2.2.1) ∧ s.1[σ.length]? = some z0 ∧ ¬ Own q rid s.2.2.1 σ.length ∧ QOk quan s.2.2.2 ∧ ∃ f, mQ s.2.2.2 < f ∧ nxtF f quan s.2.2.2 = nxtQ quan ring) (fun s => mQ s.2.2.2) (σ ++ [z0], rv, es, ring)
      ⟨h1, QKeep.app, app_last, (fun ho => by have := h.lt _ ho; omega), hok, mQ ring + 1, Nat.lt_succ_self _, rfl⟩ (.cons rfl (.cons rfl (.nil _))) rfl ?_
    rintro ⟨σ2, rv2, es2, ring2⟩ ⟨h2, hk2, hz2, hn2, hok2, f, hf, hnf⟩
    simp only at h2 hk2 hz2 hn2 hok2 hf hnf
    obtain ⟨f, rfl⟩ : ∃ g, f = g + 1 := ⟨f - 1, by omega⟩
    cases ring2 with
    | nil =>
      have c1 : decide ((((([] : List QT).length) : Nat) : Int) > 0) = false := rfl
      refine pao [.v (.ms rid rv2 0 ([] : List QT).length 1 false), .b false, .f (.tup []) (fun s => s.set σ.length z0)] rfl ?_ ?_
      · (repeat' with_reducible apply AllP_cons) <;> try exact aC
        · exact OpSpec.loadP rfl rfl rfl rfl h2.qb rfl
        · refine OpSpec.storeP (id := σ.length) (gT := some 34) (cs := [.int .i64 0, .str [], .int .i64 0]) (y := .agg [.int .i64 0, .str [], .int .i64 0]) rfl rfl rfl rfl rfl rfl ?_ (lble rfl) ?_
          · rw [hz2, hz0]
          · rw [hz0]; rfl
      have hnx : nxtQ quan ring = (none, []) := by rw [← hnf]; rfl
      rw [hnx]
      refine S_ret (ret_c2 (id := σ.length) (off := 0) (cur := 0) (cs := [.int .i64 0, .str [], .int .i64 0]) (g := ⟨false, some 34⟩) rfl rfl ?_ rfl rfl ⟨rfl, rv2, es2, ?_, ?_⟩)
      · show ((_ : Heap).set _ _)[σ.length]? = _
        rw [set_eq hz2, hz0]
      · exact h2.keep (Alive.set' h2.al (by rw [hz0]; exact ⟨_, rfl⟩) _) fun id ho => set_ne fun e => hn2 (e ▸ ho)
      · exact hk2.set (Nat.le_refl _) _
    | cons t r =>
      have hlen2 := h2.tn.len
      cases es2 with
      | nil => cases hlen2
      | cons e es3 =>
      have hi0 : 0 < (e :: es3).length := Nat.zero_lt_succ _
      have hi1 : 0 < (t :: r).length := Nat.zero_lt_succ _
      obtain ⟨k1, k2⟩ := h2.tn.get 0 hi0 hi1
      have k1 : σ2[e.tid]? = some (0, some (tnB t e)) := k1
      have k2 : σ2[e.jid]? = some (e.jv, some (.cells (jbC t.jobs) ⟨false, none⟩)) := k2
      obtain ⟨a1, a2, a3, a4, a5⟩ := h2.ap.one hi0
      have a1 : e.tid ≠ q := a1
      have a2 : e.jid ≠ q := a2
      have a3 : e.tid ≠ rid := a3
      have a4 : e.jid ≠ rid := a4
      have a5 : e.tid ≠ e.jid := a5
      have hzt : σ.length ≠ e.tid := fun h' => hn2 (.inr (.inr ⟨e, List.mem_cons_self .., .inl h'⟩))
      have c1 : decide ((((t :: r).length : Nat) : Int) > 0) = true := decide_eq_true (by rw [List.length_cons]; omega)
      have hrx : ((rgC (e :: es3)).drop (offN 0 (mulN ((0 : Int)).toNat 1)))[0]? = some (.ptr e.tid 0 0) := rfl
      obtain ⟨cr1, cr2, cr3⟩ := hok2.cr t (List.mem_cons_self ..)
      have hq1 := hok2.q1
      obtain ⟨j, js, hj⟩ : ∃ j js, t.jobs = j :: js := by
        cases hh : t.jobs with
        | nil => exact absurd hh (hok2.ne t (List.mem_cons_self ..))
        | cons j js => exact ⟨j, js, rfl⟩
      obtain ⟨co1, co2⟩ := hok2.co t (List.mem_cons_self ..) j (by rw [hj]; exact List.mem_cons_self ..)
      have hok3 : ∀ hx : t.turn = false, IntKind.i64.wrap (t.cred + quan) = t.cred + quan := fun hx => by
        have := cr3 hx
        rw [show t.cred + quan = (((t.cred + quan).toNat : Nat) : Int) by omega]
        exact w64 rfl (by omega)
      have hq2 := h2.qb
      refine' S_shareO (ι := Heap) (fun _ => [(0, .ptr q 0 0), (2, .ptr σ.length 0 0), (4, .ptr e.tid 0 0)]) (fun s => s)
        (fun s => QAt s q rid rv2 (e :: es3) quan (turned quan t :: r) ∧ QKeep σ s (Own q rid es) (Own q rid (e :: es3)) ∧ s[σ.length]? = some z0) ?main ?rest
      case main =>
        intro hsh
        cases ht : t.turn with
        | true =>
          have htt : turned quan t = t := by
            unfold turned
            rw [if_pos ht]
            cases t
            simp only at ht
            rw [ht]
          have tb : t.turn = true := ht
          have k1' : σ2[e.tid]? = some (0, some (.cells [.int .i64 t.num, .int .i64 t.cred, .bool true, .ms e.jid e.jv 0 t.jobs.length 3 false] ⟨false, some 63⟩)) := by rw [k1]; unfold tnB; rw [ht]
          refine pao [.v (.ms rid rv2 0 (t :: r).length 1 false), .b true, .v (.ms rid rv2 0 (t :: r).length 1 false), .v .top, .v (.ptr e.tid 0 0), .v (.bool true), .b false, .s] rfl ?_ ?_
          · (repeat' with_reducible apply AllP_cons) <;> try exact aC
            · exact OpSpec.loadP rfl rfl rfl rfl hq2 rfl
            · exact OpSpec.loadP rfl rfl rfl rfl hq2 rfl
            · exact OpSpec.loadE rfl rfl rfl rfl h2.rb hrx
            · exact OpSpec.loadP rfl rfl rfl rfl k1' rfl
          refine hsh σ2 _ ⟨by rw [htt]; exact h2, hk2, hz2⟩ (.cons rfl (.cons rfl (.cons rfl (.nil _))))
        | false =>
          have hw := hok3 ht
          have htt : turned quan t = ⟨t.num, t.cred + quan, true, t.jobs⟩ := by unfold turned; rw [if_neg (by rw [ht]; simp)]
          have k1' : σ2[e.tid]? = some (0, some (.cells [.int .i64 t.num, .int .i64 t.cred, .bool false, .ms e.jid e.jv 0 t.jobs.length 3 false] ⟨false, some 63⟩)) := by rw [k1]; unfold tnB; rw [ht]
          obtain ⟨T1, hT1⟩ : ∃ T1 : Nat × Option Box, T1 = (0, some (tnB ⟨t.num, t.cred, true, t.jobs⟩ e)) := ⟨_, rfl⟩
          obtain ⟨T2, hT2⟩ : ∃ T2 : Nat × Option Box, T2 = (0, some (tnB ⟨t.num, t.cred + quan, true, t.jobs⟩ e)) := ⟨_, rfl⟩
          have h4 := h2.cred hi0 hi1 ⟨t.num, t.cred, true, t.jobs⟩ rfl
          have h4 : QAt (σ2.set e.tid T1) q rid rv2 (e :: es3) quan (⟨t.num, t.cred, true, t.jobs⟩ :: r) := by rw [hT1]; exact h4
          have h5 := h4.cred hi0 (Nat.zero_lt_succ _) ⟨t.num, t.cred + quan, true, t.jobs⟩ rfl
          have h5 : QAt ((σ2.set e.tid T1).set e.tid T2) q rid rv2 (e :: es3) quan (⟨t.num, t.cred + quan, true, t.jobs⟩ :: r) := by rw [hT2]; exact h5
          have hkk : QKeep σ ((σ2.set e.tid T1).set e.tid T2) (Own q rid es) (Own q rid (e :: es3)) := (hk2.trans (QAt.credK hi0)).trans (QAt.credK hi0)
          have hqs : (σ2.set e.tid T1)[q]? = some (0, some (quB quan rid rv2 (t :: r))) := by rw [set_ne (Ne.symm a1)]; exact hq2
          have ht1 : (σ2.set e.tid T1)[e.tid]? = some (0, some (.cells [.int .i64 t.num, .int .i64 t.cred, .bool true, .ms e.jid e.jv 0 t.jobs.length 3 false] ⟨false, some 63⟩)) := by rw [set_eq k1, hT1]; rfl
          have hzz : ((σ2.set e.tid T1).set e.tid T2)[σ.length]? = some z0 := by rw [set_ne hzt, set_ne hzt]; exact hz2
          refine pao [.v (.ms rid rv2 0 (t :: r).length 1 false), .b true, .v (.ms rid rv2 0 (t :: r).length 1 false), .v .top, .v (.ptr e.tid 0 0), .v (.bool false), .b true, .f (.tup []) (fun s => s.set e.tid T1)] rfl ?_ ?_
          · (repeat' with_reducible apply AllP_cons) <;> try exact aC
            · exact OpSpec.loadP rfl rfl rfl rfl hq2 rfl
            · exact OpSpec.loadP rfl rfl rfl rfl hq2 rfl
            · exact OpSpec.loadE rfl rfl rfl rfl h2.rb hrx
            · exact OpSpec.loadP rfl rfl rfl rfl k1' rfl
            · exact OpSpec.storeP (y := .bool true) rfl rfl rfl rfl rfl rfl k1' (lble rfl) (by rw [hT1]; rfl)
          refine S_heap (σ2.set e.tid T1) rfl ?_
          generalize σ2.set e.tid T1 = σ5 at *
          refine S_drawY σ5 σ5 1 2 3 9 [.ptr e.tid 0 0, .ptr e.tid 0 0, .ptr e.tid 0 1, .int .i64 t.cred, .ptr q 0 0, .ptr q 0 0, .ptr q 0 0, .int .i64 quan, .int .i64 (t.cred + quan)] rfl rfl rfl rfl rfl rfl rfl rfl rfl ?_ ?_
          · refine ⟨pureY rfl rfl (fun s => rfl) trivial, opC_step rfl rfl rfl trivial, pureY rfl rfl (fun s => rfl) trivial, specC_step rfl rfl (OpSpec.loadP rfl rfl rfl rfl ht1 rfl), pureY rfl rfl (fun s => rfl) trivial, pureY rfl rfl (fun s => rfl) trivial, pureY rfl rfl (fun s => rfl) trivial, ?_, ?_, trivial⟩
            · exact specY rfl rfl fun s hs => by
                have e : s = σ5 := by rcases hs with e | e | e <;> exact e
                rw [e]
                exact OpSpec.loadP rfl rfl rfl rfl hqs rfl
            · refine pureY rfl rfl (C := []) (fun s => ?_) trivial
              show some ([], AV.int .i64 (IntKind.i64.wrap (t.cred + quan)), s) = _
              rw [hw]
          refine pao [.f (.tup []) (fun s => s.set e.tid T2), .s] rfl ?_ ?_
          · (repeat' with_reducible apply AllP_cons) <;> try exact aC
            · exact OpSpec.storeP (y := .int .i64 (t.cred + quan)) rfl rfl rfl rfl rfl rfl ht1 (lble rfl) (by rw [hT2]; rfl)
          exact hsh (σ5.set e.tid T2) _ ⟨by rw [htt]; exact h5, hkk, hzz⟩ (.cons rfl (.cons rfl (.cons rfl (.nil _))))
      case rest =>
        rintro σ3 ⟨h3, hk3, hz3⟩
        obtain ⟨c, hc⟩ : ∃ c, c = if t.turn = true then t.cred else t.cred + quan := ⟨_, rfl⟩
        have hcb : 0 ≤ c ∧ c ≤ 1999 := by
          rw [hc]
          split
          · exact ⟨cr1, cr2⟩
          · rename_i hx
            have := cr3 (by simpa using hx)
            omega
        have htu : turned quan t = ⟨t.num, c, true, t.jobs⟩ := by unfold turned; rw [← hc]
        have hre : rested quan t = ⟨t.num, c, false, t.jobs⟩ := by unfold rested; rw [← hc]
        rw [htu] at h3
        have hlen3 := h3.tn.len
        obtain ⟨k3, k4⟩ := h3.tn.get 0 hi0 (Nat.zero_lt_succ _)
        have k3 : σ3[e.tid]? = some (0, some (.cells [.int .i64 t.num, .int .i64 c, .bool true, .ms e.jid e.jv 0 t.jobs.length 3 false] ⟨false, some 63⟩)) := k3
        have k4 : σ3[e.jid]? = some (e.jv, some (.cells (jbC t.jobs) ⟨false, none⟩)) := k4
        have hjl : 0 < t.jobs.length := by rw [hj]; exact Nat.zero_lt_succ _
        have hcx : decide ((0 : Int) < (t.jobs.length : Int)) = true := decide_eq_true (by omega)
        have hcost : ((jbC t.jobs).drop (offN 0 (mulN ((0 : Int)).toNat 3) + 2))[0]? = some (.int .i64 j.cost) := by rw [hj]; rfl
        have hmn := hok2.mn
        have hrl := hok2.len
        by_cases hcc : j.cost ≤ c
        · have d1 : decide (j.cost ≤ c) = true := decide_eq_true hcc
          have hw : IntKind.i64.wrap (c - j.cost) = c - j.cost := by
            rw [show c - j.cost = (((c - j.cost).toNat : Nat) : Int) by omega]
            exact w64 rfl (by omega)
          obtain ⟨T3, hT3⟩ : ∃ T3 : Nat × Option Box, T3 = (0, some (tnB ⟨t.num, c - j.cost, true, t.jobs⟩ e)) := ⟨_, rfl⟩
          have h4 := h3.cred hi0 (Nat.zero_lt_succ _) ⟨t.num, c - j.cost, true, t.jobs⟩ rfl
          have h4 : QAt (σ3.set e.tid T3) q rid rv2 (e :: es3) quan (⟨t.num, c - j.cost, true, t.jobs⟩ :: r) := by rw [hT3]; exact h4
          have hk4 : QKeep σ (σ3.set e.tid T3) (Own q rid es) (Own q rid (e :: es3)) := hk3.trans (QAt.credK hi0)
          have hz4 : (σ3.set e.tid T3)[σ.length]? = some z0 := by rw [set_ne hzt]; exact hz3
          refine pao [.v (.ms e.jid e.jv 0 t.jobs.length 3 false), .v .top, .v (.int .i64 j.cost), .v (.int .i64 c), .b true, .v (.int .i64 c), .f (.tup []) (fun s => s.set e.tid T3)] rfl ?_ ?_
          · (repeat' with_reducible apply AllP_cons) <;> try exact aC
            · exact OpSpec.loadP rfl rfl rfl rfl k3 rfl
            · exact OpSpec.loadE rfl rfl rfl rfl k4 hcost
            · exact OpSpec.loadP rfl rfl rfl rfl k3 rfl
            · exact OpSpec.loadP rfl rfl rfl rfl k3 rfl
            · refine OpSpec.storeP (y := .int .i64 (c - j.cost)) rfl rfl rfl ?_ rfl rfl k3 (lble rfl) (by rw [hT3]; rfl)
              show AV.int .i64 (IntKind.i64.wrap (c - j.cost)) = _
              rw [hw]
          have hmq : manyQ (⟨t.num, c - j.cost, true, t.jobs⟩ :: r) ≤ 200 := hmn
          have htk := take_ok (σ3.set e.tid T3) q rid rv2 (e :: es3) quan (⟨t.num, c - j.cost, true, t.jobs⟩ :: r) 0 0 h4 hmq hrl (Nat.zero_lt_succ _) hjl
          refine S_call rfl rfl rfl htk (fun v' σ' hv => ?_) (fun v' σ' hv => ?_)
          case _ =>
            obtain ⟨e1, es4, h5, hk5⟩ := hv
            cases e1
            have hjj : (t.jobs)[0] = j := by simp only [hj, List.getElem_cons_zero]
            have hkk := hk4.trans hk5
            have hn4 : ¬ Own q rid (e :: es3) σ.length := fun ho => hn2 ho
            have hlt4 : σ.length < (σ3.set e.tid T3).length := lt_of_get hz4
            have hz5 : σ'[σ.length]? = some z0 := by rw [hk5.same _ hlt4 hn4]; exact hz4
            have hn5 : ¬ Own q rid es4 σ.length := fun ho => by
              rcases hk5.new _ ho with h' | h'
              · exact hn4 h'
              · omega
            obtain ⟨zj, hzj⟩ : ∃ zj : Nat × Option Box, zj = (0, some (.cells j.cells ⟨false, some 34⟩)) := ⟨_, rfl⟩
            have hnx : nxtQ quan ring = (some j, takR (⟨t.num, c - j.cost, true, t.jobs⟩ :: r) 0 0) := by
              rw [← hnf, nxtF]
              simp only [hj]
              rw [← hc, if_pos hcc]
            rw [hnx]
            refine pao [.f (.tup []) (fun s => s.set σ.length zj)] rfl ?_ ?_
            · (repeat' with_reducible apply AllP_cons) <;> try exact aC
              · refine OpSpec.storeP (id := σ.length) (gT := some 34) (cs := [.int .i64 0, .str [], .int .i64 0]) (y := jobA j) rfl rfl rfl ?_ rfl rfl ?_ (lble rfl) ?_
                · show jobA (t.jobs)[0] = _
                  rw [hjj]
                · rw [hz5, hz0]
                · rw [hzj]; rfl
            refine S_ret (ret_c2 (id := σ.length) (off := 0) (cur := 0) (cs := j.cells) (g := ⟨false, some 34⟩) rfl rfl ?_ rfl rfl ⟨rfl, rv2, es4, ?_, ?_⟩)
            · show ((_ : Heap).set _ _)[σ.length]? = _
              rw [set_eq hz5, hzj]
            · exact h5.keep (Alive.set' h5.al (by rw [hzj]; exact ⟨_, rfl⟩) _) fun id ho => set_ne fun e => hn5 (e ▸ ho)
            · exact hkk.set (Nat.le_refl _) _
          case _ =>
            obtain ⟨e1, _⟩ := hv
            cases e1
        · have d1 : decide (j.cost ≤ c) = false := decide_eq_false hcc
          obtain ⟨T4, hT4⟩ : ∃ T4 : Nat × Option Box, T4 = (0, some (tnB ⟨t.num, c, false, t.jobs⟩ e)) := ⟨_, rfl⟩
          have h4 := h3.cred hi0 (Nat.zero_lt_succ _) ⟨t.num, c, false, t.jobs⟩ rfl
          have h4 : QAt (σ3.set e.tid T4) q rid rv2 (e :: es3) quan (⟨t.num, c, false, t.jobs⟩ :: r) := by rw [hT4]; exact h4
          have hk4 : QKeep σ (σ3.set e.tid T4) (Own q rid es) (Own q rid (e :: es3)) := hk3.trans (QAt.credK hi0)
          have hz4 : (σ3.set e.tid T4)[σ.length]? = some z0 := by rw [set_ne hzt]; exact hz3
          have h5 := h4.rot
          obtain ⟨R2, hR2⟩ : ∃ R2 : Nat × Option Box, R2 = (rv2 + 1, some (.cells ((rgC (e :: es3)).drop 1 ++ [AV.ptr e.tid 0 0]) ⟨false, none⟩)) := ⟨_, rfl⟩
          obtain ⟨Q2, hQ2⟩ : ∃ Q2 : Nat × Option Box, Q2 = (0, some (quB quan rid (rv2 + 1) (⟨t.num, c, false, t.jobs⟩ :: r))) := ⟨_, rfl⟩
          rw [← hR2, ← hQ2] at h5
          have hk5 := hk4.trans (QAt.rotK (σ := σ3.set e.tid T4) (q := q) (rid := rid) (e := e) (es := es3) (x := R2) (y := Q2))
          have hz5 : (((σ3.set e.tid T4).set rid R2).set q Q2)[σ.length]? = some z0 := by rw [set_ne (by omega), set_ne (by omega)]; exact hz4
          have hqb4 := h4.qb
          have hrb4 := h4.rb
          refine pao [.v (.ms e.jid e.jv 0 t.jobs.length 3 false), .v .top, .v (.int .i64 j.cost), .v (.int .i64 c), .b false, .f (.tup []) (fun s => s.set e.tid T4), .v (.ms rid rv2 0 (r.length + 1) 1 false), .f (.ms rid (rv2 + 1) 0 (r.length + 1) 1 false) (fun s => s.set rid R2), .f (.tup []) (fun s => s.set q Q2)] rfl ?_ ?_
          · (repeat' with_reducible apply AllP_cons) <;> try exact aC
            · exact OpSpec.loadP rfl rfl rfl rfl k3 rfl
            · exact OpSpec.loadE rfl rfl rfl rfl k4 hcost
            · exact OpSpec.loadP rfl rfl rfl rfl k3 rfl
            · exact OpSpec.storeP (y := .bool false) rfl rfl rfl rfl rfl rfl k3 (lble rfl) (by rw [hT4]; rfl)
            · exact OpSpec.loadP rfl rfl rfl rfl hqb4 rfl
            · refine OpSpec.appendX (id := rid) (ver := rv2) (off := 1) (len := r.length) (y := .ptr e.tid 0 0) (cs := rgC (e :: es3)) rfl rfl rfl rfl rfl (fun z hz => ?_) hrb4 ?_ ?_ ?_ ?_
              · have hz : z ∈ [AV.ptr e.tid 0 0] := hz
                rw [List.mem_singleton.1 hz]; rfl
              · have hl : es3.length = r.length := Nat.succ.inj hlen2
                simp [rgC, hl]; omega
              · show (r.length + 1) * 8 ≤ 140737488355328
                rw [List.length_cons] at hrl; omega
              · rw [List.length_cons] at hrl; omega
              · rw [hR2]; rfl
            · refine OpSpec.storeP (id := q) (gT := some 56) (cs := [.int .i64 quan, .ms rid rv2 0 (r.length + 1) 1 false, .int .i64 (manyQ (⟨t.num, c, false, t.jobs⟩ :: r) : Nat)]) rfl rfl rfl rfl rfl rfl ?_ (lble rfl) ?_
              · show ((_ : Heap).set _ _)[q]? = _
                rw [set_ne hqr]; exact hqb4
              · rw [hQ2]; rfl
          have hrot := hok2.rot hj (by rw [← hc]; exact hcc)
          rw [hre] at hrot
          refine S_round (((σ3.set e.tid T4).set rid R2).set q Q2, rv2 + 1, es3 ++ [e], r ++ [⟨t.num, c, false, t.jobs⟩]) hrot.2 ⟨h5, hk5, hz5, fun ho => ?_, hrot.1, f, ?_, ?_⟩ (.cons rfl (.cons rfl (.nil _))) rfl
          · rcases ho with h' | h' | ⟨x, hx, h'⟩
            · exact hn2 (.inl h')
            · exact hn2 (.inr (.inl h'))
            · refine hn2 (.inr (.inr ⟨x, ?_, h'⟩))
              rcases List.mem_append.1 hx with hx | hx
              · exact List.mem_cons_of_mem _ hx
              · rw [List.mem_singleton.1 hx]; exact List.mem_cons_self ..
          · have := hrot.2
            show mQ (r ++ [⟨t.num, c, false, t.jobs⟩]) < f
            omega
          · rw [← hnf]
            show nxtF f quan (r ++ [⟨t.num, c, false, t.jobs⟩]) = _
            conv => rhs; rw [nxtF]
            simp only [hj]
            rw [← hc, if_neg hcc]
end Go.Proofs.Ytjaflkgfipaajaa
end
section
set_option linter.unusedVariables false
set_option linter.unusedSimpArgs false
set_option maxRecDepth 20000
set_option maxHeartbeats 2000000
namespace Go.Proofs.Ytjaflkgfipaajaa
open Go Go.Ab
def newQ (quan : Int) : Heap := [(0, some (.cells [.int .i64 quan, .nils, .int .i64 0] ⟨false, some 56⟩))]
theorem New_ok (quan : Int) (h : 1 ≤ quan ∧ quan ≤ 1000) : CallOk cx 8 [.int .i64 quan] [] (fun o s => o = .ret (.tup [.ptr 0 0 0, .int .i64 0]) ∧ s = newQ quan) :=
  callOk_intro (fun a w => Try.call8 a w) Try.func8 rfl Try.ntmps8 rfl fun B => by
    have c1 : decide (quan < 1) = false := decide_eq_false (by omega)
    have c2 : decide (quan > 1000) = false := decide_eq_false (by omega)
    refine pB [.b false, .b false] rfl ?_
    exact S_ret ⟨_, _, rfl, trivial, rfl, rfl⟩
theorem NewE_ok (quan : Int) (h : quan < 1 ∨ quan > 1000) : Calc cx 8 [.int .i64 quan] (.tup [.nilp, .int .i64 3]) :=
  pure_intro (fun a w => Try.call8 a w) Try.func8 rfl Try.ntmps8 rfl (.tup (fun a ha => by rcases List.mem_cons.1 ha with rfl | ha; exact .nilp; rw [List.mem_singleton.1 ha]; exact .int)) fun B => by
    by_cases h1 : quan < 1
    · have c1 : decide (quan < 1) = true := decide_eq_true h1
      refine pB [.b true, .b true] rfl ?_
      exact S_ret ⟨_, _, rfl, trivial, _, rfl, .refl (.tup (fun a ha => by rcases List.mem_cons.1 ha with rfl | ha; exact .nilp; rw [List.mem_singleton.1 ha]; exact .int))⟩
    · have c1 : decide (quan < 1) = false := decide_eq_false h1
      have c2 : decide (quan > 1000) = true := decide_eq_true (by omega)
      refine pB [.b false, .b true] rfl ?_
      exact S_ret ⟨_, _, rfl, trivial, _, rfl, .refl (.tup (fun a ha => by rcases List.mem_cons.1 ha with rfl | ha; exact .nilp; rw [List.mem_singleton.1 ha]; exact .int))⟩
def newH (quan : Int) : Heap := [(0, some (.cells [.int .i64 quan, .ms 1 0 0 0 1 false, .int .i64 0] ⟨false, some 56⟩)), (0, some (.cells [] ⟨false, none⟩))]
theorem newH_at (quan : Int) : QAt (newH quan) 0 1 0 [] quan [] := by
  refine ⟨fun e he => ?_, rfl, rfl, .nil, ⟨by decide, (fun p hp => by cases hp), .nil⟩⟩
  rcases List.mem_cons.1 he with rfl | he
  · exact ⟨_, rfl⟩
  · rw [List.mem_singleton.1 he]; exact ⟨_, rfl⟩
theorem ok0 {quan : Int} (h : 1 ≤ quan ∧ quan ≤ 1000) : QOk quan [] := ⟨h, (fun t ht => by cases ht), (fun t ht => by cases ht), (fun t ht => by cases ht), (fun t ht => by cases ht), Nat.zero_le _⟩
def jobX : QJ := ⟨1, [97], 3⟩
theorem putX : putE [] jobX = 0 := by decide
theorem nxtX : nxtQ 5 (addJ [] jobX) = (some jobX, []) := rfl
theorem okX : QOk 5 (addJ [] jobX) := by
  refine ⟨by decide, fun t ht => ?_, fun t ht => ?_, fun t ht => ?_, (fun t ht => by cases ht), by decide⟩
  · rw [List.mem_singleton.1 ht]; simp
  · rw [List.mem_singleton.1 ht]; decide
  · rw [List.mem_singleton.1 ht]
    intro j hj
    rw [List.mem_singleton.1 hj]; decide
theorem queueBegun_ok : Calc cx 7 [] (.bool true) :=
  pure_intro (fun a w => Try.call7 a w) Try.func7 rfl Try.ntmps7 rfl .bool fun B => by
    have hN := New_ok 5 (by decide)
    refine pao [.f (.tup [.ptr 0 0 0, .int .i64 0]) (fun _ => newQ 5), .b false, .b false, .b false] rfl ?_ ?_
    · (repeat' with_reducible apply AllP_cons) <;> try exact aC
    refine S_ghost (id := 0) (gid := 1) (gver := 0) (j := 1) (σ' := newQ 5 ++ [(0, some (.cells [] ⟨false, none⟩))]) 1 ⟨false, none⟩ rfl rfl rfl (by decide) ⟨.skip, _, .inr ⟨_, _, _, rfl⟩⟩ ?_
    refine S_heap (newH 5) rfl ?_
    have hP := Put_ok (newH 5) 0 1 0 [] 5 [] jobX (newH_at 5) (by decide) (by decide) (by decide)
    rw [putX] at hP
    refine S_call rfl rfl rfl hP (fun v' σ' hv => ?_) (fun v' σ' hv => ?_)
    case _ =>
      obtain ⟨e1, rv', es', h1, _⟩ := hv
      cases e1
      have h1 : QAt σ' 0 1 rv' es' 5 (addJ [] jobX) := h1
      have hX := Next_ok σ' 0 1 rv' es' 5 _ h1 okX
      rw [nxtX] at hX
      refine pao [] rfl ?_ ?_
      · (repeat' with_reducible apply AllP_cons) <;> try exact aC
      refine S_call rfl rfl rfl hX (fun v' σ2 hv => ?_) (fun v' σ2 hv => ?_)
      case _ =>
        obtain ⟨e1, rv2, es2, h2, _⟩ := hv
        cases e1
        refine pao [.f (.ptr σ2.length 0 0) (fun s => s ++ [(0, some (.cells [.int .i64 0, .str [], .int .i64 0] ⟨false, some 34⟩))]), .f (.tup []) (fun _ => σ2 ++ [(0, some (.cells jobX.cells ⟨false, some 34⟩))]), .b true, .b true, .v (.str [97])] rfl ?_ ?_
        · (repeat' with_reducible apply AllP_cons) <;> try exact aC
          · exact OpSpec.allocE rfl rfl rfl rfl h2.al
          · exact OpSpec.storeP (y := jobA jobX) rfl rfl rfl rfl rfl rfl app_last (lble rfl) (by rw [List.set_append_right _ _ (Nat.le_refl _), Nat.sub_self]; rfl)
          · exact OpSpec.loadP rfl rfl rfl rfl app_last rfl
        exact S_ret ⟨_, _, rfl, trivial, _, rfl, .refl .bool⟩
      case _ =>
        obtain ⟨e1, _⟩ := hv
        cases e1
    case _ =>
      obtain ⟨e1, _⟩ := hv
      cases e1
end Go.Proofs.Ytjaflkgfipaajaa
end
section
set_option linter.unusedVariables false
set_option linter.unusedSimpArgs false
set_option maxRecDepth 20000
namespace Go.Proofs.Ytjaflkgfipaajaa
open Go Go.Ab
theorem addJ_mem {j : QJ} : ∀ {ring : List QT} {t : QT}, t ∈ addJ ring j → t ∈ ring ∨ (∃ t0 ∈ ring, t = moreJ t0 j) ∨ t = ⟨j.ten, 0, false, [j]⟩
  | [], t, h => by rw [addJ] at h; exact .inr (.inr (List.mem_singleton.1 h))
  | x :: r, t, h => by
    rw [addJ] at h
    split at h
    · rcases List.mem_cons.1 h with h | h
      · exact .inr (.inl ⟨x, List.mem_cons_self .., h⟩)
      · exact .inl (List.mem_cons_of_mem _ h)
    · rcases List.mem_cons.1 h with h | h
      · exact .inl (by rw [h]; exact List.mem_cons_self ..)
      · rcases addJ_mem h with h | ⟨t0, h0, h⟩ | h
        · exact .inl (List.mem_cons_of_mem _ h)
        · exact .inr (.inl ⟨t0, List.mem_cons_of_mem _ h0, h⟩)
        · exact .inr (.inr h)
theorem many_addJ {j : QJ} : ∀ (ring : List QT), manyQ (addJ ring j) = manyQ ring + 1
  | [] => rfl
  | x :: r => by
    rw [addJ]
    split
    · show (x.jobs ++ [j]).length + manyQ r = _
      rw [manyQ, List.length_append]; simp only [List.length_cons, List.length_nil]; omega
    · rw [manyQ, manyQ, many_addJ r]; omega
theorem QOk.add {quan : Int} {ring : List QT} {j : QJ} (h : QOk quan ring) (hp : putE ring j = 0) : QOk quan (addJ ring j) := by
  have hc : 1 ≤ j.cost ∧ j.cost ≤ 1000 := by
    unfold putE at hp
    by_cases h0 : j.ten < 1 ∨ j.ten > 20 ∨ j.cost < 1 ∨ j.cost > 1000
    · rw [if_pos h0] at hp; cases hp
    · omega
  have hm : manyQ ring ≠ 200 := by
    unfold putE at hp
    split at hp
    · cases hp
    · split at hp
      · cases hp
      · split at hp
        · cases hp
        · split at hp
          · cases hp
          · assumption
  have hmn := h.mn
  refine ⟨h.q1, fun t ht => ?_, fun t ht => ?_, fun t ht => ?_, fun t ht => ?_, by rw [many_addJ]; omega⟩
  · rcases addJ_mem ht with ht | ⟨t0, h0, rfl⟩ | rfl
    · exact h.ne t ht
    · show t0.jobs ++ [j] ≠ []; simp
    · simp
  · rcases addJ_mem ht with ht | ⟨t0, h0, rfl⟩ | rfl
    · exact h.cr t ht
    · exact h.cr t0 h0
    · exact ⟨Int.le_refl _, by show (0 : Int) ≤ 1999; decide, fun _ => by show (0 : Int) ≤ 999; decide⟩
  · rcases addJ_mem ht with ht | ⟨t0, h0, rfl⟩ | rfl
    · exact h.co t ht
    · intro x hx
      rcases List.mem_append.1 hx with hx | hx
      · exact h.co t0 h0 x hx
      · rw [List.mem_singleton.1 hx]; exact hc
    · intro x hx
      rw [List.mem_singleton.1 hx]; exact hc
  · cases hr : ring with
    | nil => rw [hr] at ht; cases ht
    | cons x r =>
      rw [hr, addJ] at ht
      have htl := h.tl
      rw [hr] at htl
      split at ht
      · exact htl t ht
      · rcases addJ_mem (show t ∈ addJ r j from ht) with ht | ⟨t0, h0, rfl⟩ | rfl
        · exact htl t ht
        · exact htl t0 h0
        · rfl
end Go.Proofs.Ytjaflkgfipaajaa
end
section
set_option linter.unusedVariables false
set_option linter.unusedSimpArgs false
set_option maxRecDepth 20000
namespace Go.Proofs.Ytjaflkgfipaajaa
open Go Go.Ab
theorem getErase {α : Type} : ∀ {l : List α} {i : Nat} (h : i < l.length), (l[i] :: l.eraseIdx i).Perm l
  | x :: r, 0, _ => .refl _
  | x :: r, i + 1, h => by
    have := getErase (l := r) (i := i) (Nat.lt_of_succ_lt_succ h)
    exact (List.Perm.swap ..).trans (this.cons x)
theorem setErase {α : Type} (a : α) : ∀ {l : List α} {i : Nat} (h : i < l.length), (l.set i a).Perm (a :: l.eraseIdx i)
  | x :: r, 0, _ => .refl _
  | x :: r, i + 1, h => by
    have := setErase a (l := r) (i := i) (Nat.lt_of_succ_lt_succ h)
    exact (this.cons x).trans (List.Perm.swap ..)
def nmsQ (ring : List QT) : List Nm := ring.flatMap fun t => t.jobs.map QJ.name
theorem nmsQ_cons (t : QT) (r : List QT) : nmsQ (t :: r) = t.jobs.map QJ.name ++ nmsQ r := by unfold nmsQ; rw [List.flatMap_cons]
theorem nmsQ_perm {a b : List QT} (h : a.Perm b) : (nmsQ a).Perm (nmsQ b) := h.flatMap_right _
theorem nmsQ_len : ∀ ring : List QT, (nmsQ ring).length = manyQ ring
  | [] => rfl
  | t :: r => by rw [nmsQ_cons, List.length_append, List.length_map, nmsQ_len r, manyQ]
theorem nms_add (j : QJ) : ∀ ring : List QT, (nmsQ (addJ ring j)).Perm (j.name :: nmsQ ring)
  | [] => by rw [addJ]; exact .refl _
  | x :: r => by
    rw [addJ]
    split
    · rw [nmsQ_cons, nmsQ_cons]
      show ((x.jobs ++ [j]).map QJ.name ++ nmsQ r).Perm _
      rw [List.map_append, List.append_assoc]
      exact List.perm_middle
    · rw [nmsQ_cons, nmsQ_cons]
      exact ((nms_add j r).append_left _).trans List.perm_middle
theorem takR_eq {ring : List QT} {i k : Nat} (hi : i < ring.length) : takR ring i k = if (ring[i].jobs.eraseIdx k) = [] then ring.eraseIdx i else ring.set i (lessJ ring[i] k) := by
  unfold takR
  rw [List.getElem?_eq_getElem hi]
theorem nms_take {ring : List QT} {i k : Nat} (hi : i < ring.length) (hk : k < ring[i].jobs.length) : (ring[i].jobs[k].name :: nmsQ (takR ring i k)).Perm (nmsQ ring) := by
  have h1 : (ring[i] :: ring.eraseIdx i).Perm ring := getErase hi
  have h2 : (ring[i].jobs[k] :: ring[i].jobs.eraseIdx k).Perm ring[i].jobs := getErase hk
  have h3 : (nmsQ (takR ring i k)).Perm ((ring[i].jobs.eraseIdx k).map QJ.name ++ nmsQ (ring.eraseIdx i)) := by
    rw [takR_eq hi]
    split
    · rename_i he
      rw [he]; exact .refl _
    · have := nmsQ_perm (setErase (lessJ ring[i] k) hi)
      rw [nmsQ_cons] at this
      exact this
  refine (h3.cons _).trans ?_
  refine List.Perm.trans ?_ (nmsQ_perm h1)
  rw [nmsQ_cons, ← List.cons_append, ← List.map_cons]
  exact (h2.map _).append_right _
theorem fnd_some {name : Nm} : ∀ {ring : List QT} {i k : Nat}, fndQ ring name = some (i, k) → ∃ (hi : i < ring.length) (hk : k < ring[i].jobs.length), ring[i].jobs[k].name = name
  | [], i, k, h => by cases h
  | x :: r, i, k, h => by
    rw [fndQ] at h
    split at h
    · rename_i k' hf
      cases h
      obtain ⟨h1, h2, _⟩ := List.findIdx?_eq_some_iff_getElem.1 hf
      exact ⟨Nat.zero_lt_succ _, h1, by simpa using h2⟩
    · rename_i hf
      cases hr : fndQ r name with
      | none => rw [hr] at h; cases h
      | some p =>
        rw [hr] at h
        cases h
        obtain ⟨h1, h2, h3⟩ := fnd_some (ring := r) (i := p.1) (k := p.2) hr
        exact ⟨Nat.succ_lt_succ h1, h2, h3⟩
theorem fnd_none {name : Nm} : ∀ {ring : List QT}, fndQ ring name = none → name ∉ nmsQ ring
  | [], h => by intro hm; cases hm
  | x :: r, h => by
    rw [fndQ] at h
    split at h
    · cases h
    · rename_i hf
      cases hr : fndQ r name with
      | some p => rw [hr] at h; cases h
      | none =>
        rw [nmsQ_cons]
        intro hm
        rcases List.mem_append.1 hm with hm | hm
        · obtain ⟨j, hj, he⟩ := List.mem_map.1 hm
          have := List.findIdx?_eq_none_iff.1 hf j hj
          simp [he] at this
        · exact fnd_none hr hm
theorem put_new {ring : List QT} {j : QJ} (h : putE ring j = 0) : j.name ∉ nmsQ ring := by
  unfold putE at h
  split at h
  · cases h
  · split at h
    · cases h
    · split at h
      · cases h
      · rename_i hf
        refine fnd_none ?_
        cases hq : fndQ ring j.name with
        | none => rfl
        | some p => exact absurd (by rw [hq]; simp) hf
theorem many_take {ring : List QT} {i k : Nat} (hi : i < ring.length) (hk : k < ring[i].jobs.length) : manyQ (takR ring i k) + 1 = manyQ ring := by
  have := (nms_take hi hk).length_eq
  rw [List.length_cons, nmsQ_len, nmsQ_len] at this
  exact this
theorem QOk.take {quan : Int} {ring : List QT} (h : QOk quan ring) {i k : Nat} (hi : i < ring.length) (hk : k < ring[i].jobs.length) : QOk quan (takR ring i k) := by
  have hm := many_take hi hk
  have hmn := h.mn
  have hmem : ∀ t ∈ takR ring i k, t ∈ ring ∨ (t = lessJ ring[i] k ∧ t.jobs ≠ []) := fun t ht => by
    rw [takR_eq hi] at ht
    split at ht
    · exact .inl (List.mem_of_mem_eraseIdx ht)
    · rename_i hne
      rcases List.mem_or_eq_of_mem_set ht with ht | ht
      · exact .inl ht
      · exact .inr ⟨ht, by rw [ht]; exact hne⟩
  have hin : ring[i] ∈ ring := List.getElem_mem hi
  refine ⟨h.q1, fun t ht => ?_, fun t ht => ?_, fun t ht => ?_, fun t ht => ?_, by omega⟩
  · rcases hmem t ht with ht | ⟨rfl, h2⟩
    · exact h.ne t ht
    · exact h2
  · rcases hmem t ht with ht | ⟨rfl, h2⟩
    · exact h.cr t ht
    · exact h.cr ring[i] hin
  · rcases hmem t ht with ht | ⟨rfl, h2⟩
    · exact h.co t ht
    · intro j hj
      exact h.co _ hin j (List.mem_of_mem_eraseIdx hj)
  · have htl := h.tl
    rw [takR_eq hi] at ht
    cases ring with
    | nil => cases hi
    | cons x r =>
      have htl : ∀ t ∈ r, t.turn = false := htl
      split at ht
      · cases i with
        | zero => exact htl t (List.mem_of_mem_tail ht)
        | succ i => exact htl t (List.mem_of_mem_eraseIdx (show t ∈ r.eraseIdx i from ht))
      · cases i with
        | zero => exact htl t ht
        | succ i =>
          have hi' : i < r.length := Nat.lt_of_succ_lt_succ hi
          rcases List.mem_or_eq_of_mem_set (show t ∈ r.set i (lessJ r[i] k) from ht) with ht | ht
          · exact htl t ht
          · rw [ht]; exact htl r[i] (List.getElem_mem hi')
theorem nxt_spec {quan : Int} : ∀ (f : Nat) (ring : List QT), QOk quan ring → mQ ring < f → ring = [] ∧ nxtF f quan ring = (none, []) ∨ ∃ j r', nxtF f quan ring = (some j, r') ∧ (j.name :: nmsQ r').Perm (nmsQ ring) ∧ QOk quan r'
  | 0, _, _, h => by omega
  | f + 1, [], _, _ => .inl ⟨rfl, rfl⟩
  | f + 1, t :: r, hok, hm => by
    right
    obtain ⟨j, js, hj⟩ : ∃ j js, t.jobs = j :: js := by
      cases hh : t.jobs with
      | nil => exact absurd hh (hok.ne t (List.mem_cons_self ..))
      | cons j js => exact ⟨j, js, rfl⟩
    rw [nxtF]
    simp only [hj]
    obtain ⟨c1, c2, c3⟩ := hok.cr t (List.mem_cons_self ..)
    obtain ⟨d1, d2⟩ := hok.co t (List.mem_cons_self ..) j (by rw [hj]; exact List.mem_cons_self ..)
    have hq := hok.q1
    by_cases hc : j.cost ≤ (if t.turn = true then t.cred else t.cred + quan)
    · rw [if_pos hc]
      obtain ⟨c, hcc⟩ : ∃ c, c = (if t.turn = true then t.cred else t.cred + quan) - j.cost := ⟨_, rfl⟩
      have hcb : 0 ≤ c ∧ c ≤ 1999 := by
        rw [hcc]
        split
        · split at hc <;> omega
        · rename_i hx
          have := c3 (by simpa using hx)
          rw [if_neg hx] at hc
          omega
      rw [← hcc, ← hj]
      have hok2 : QOk quan (⟨t.num, c, true, t.jobs⟩ :: r) := by
        refine ⟨hok.q1, fun x hx => ?_, fun x hx => ?_, fun x hx => ?_, fun x hx => hok.tl x hx, hok.mn⟩
        · rcases List.mem_cons.1 hx with rfl | hx
          · exact hok.ne t (List.mem_cons_self ..)
          · exact hok.ne x (List.mem_cons_of_mem _ hx)
        · rcases List.mem_cons.1 hx with rfl | hx
          · exact ⟨hcb.1, hcb.2, fun h => by cases h⟩
          · exact hok.cr x (List.mem_cons_of_mem _ hx)
        · rcases List.mem_cons.1 hx with rfl | hx
          · exact hok.co t (List.mem_cons_self ..)
          · exact hok.co x (List.mem_cons_of_mem _ hx)
      have hk0 : 0 < ((⟨t.num, c, true, t.jobs⟩ :: r : List QT)[0]'(Nat.zero_lt_succ _)).jobs.length := by
        show 0 < t.jobs.length
        rw [hj]; exact Nat.zero_lt_succ _
      refine ⟨j, _, rfl, ?_, hok2.take (Nat.zero_lt_succ _) hk0⟩
      have := nms_take (ring := ⟨t.num, c, true, t.jobs⟩ :: r) (Nat.zero_lt_succ _) hk0
      have he : ((⟨t.num, c, true, t.jobs⟩ :: r : List QT)[0]'(Nat.zero_lt_succ _)).jobs[0]'hk0 = j := by simp [hj]
      rw [he] at this
      exact this
    · rw [if_neg hc]
      obtain ⟨k1, k2⟩ := hok.rot hj hc
      have hre : rested quan t = ⟨t.num, if t.turn = true then t.cred else t.cred + quan, false, j :: js⟩ := by unfold rested; rw [hj]
      rw [hre] at k1 k2
      rcases nxt_spec f _ k1 (by omega) with ⟨h1, _⟩ | ⟨j', r', h1, h2, h3⟩
      · simp at h1
      · refine ⟨j', r', h1, h2.trans ?_, h3⟩
        have : (r ++ [(⟨t.num, if t.turn = true then t.cred else t.cred + quan, false, j :: js⟩ : QT)]).Perm (⟨t.num, if t.turn = true then t.cred else t.cred + quan, false, j :: js⟩ :: r) := List.perm_append_comm
        refine (nmsQ_perm this).trans ?_
        rw [nmsQ_cons, nmsQ_cons, hj]
end Go.Proofs.Ytjaflkgfipaajaa
end
section
set_option linter.unusedVariables false
set_option linter.unusedSimpArgs false
set_option maxRecDepth 20000
set_option maxHeartbeats 2000000
namespace Go.Proofs.Ytjaflkgfipaajaa
open Go Go.Ab
def drpR (ring : List QT) (name : Nm) : List QT := match fndQ ring name with | some p => takR ring p.1 p.2 | none => ring
theorem QAt.apps {σ τ : Heap} {q rid rv : Nat} {es : List QL} {quan : Int} {ring : List QT} (h : QAt σ q rid rv es quan ring) (ht : Alive τ) : QAt (σ ++ τ) q rid rv es quan ring := h.mono (alive_apps h.al ht) fun i y hy => apps_get hy
theorem Drop_ok (σ : Heap) (q rid rv : Nat) (es : List QL) (quan : Int) (ring : List QT) (name : Nm) (h : QAt σ q rid rv es quan ring) (hok : QOk quan ring) :
    CallOk cx 15 [.ptr q 0 0, .str name] σ (fun o s => o = .ret (.bool (fndQ ring name).isSome) ∧ ∃ es', QAt s q rid rv es' quan (drpR ring name) ∧ QKeep σ s (Own q rid es) (Own q rid es')) :=
  callOk_intro (fun a w => Try.call15 a w) Try.func15 rfl Try.ntmps15 rfl fun B => by
    have hrl := hok.len
    have hmn := hok.mn
    have hf := find_ok σ q rid rv es quan ring name h (by omega) (fun t ht => by
      obtain ⟨i, hi, rfl⟩ := List.getElem_of_mem ht
      have := many_at hi
      omega)
    refine pao [] rfl ?_ ?_
    · (repeat' with_reducible apply AllP_cons) <;> try exact aC
    refine S_call rfl rfl rfl hf (fun v' σ' hv => ?_) (fun v' σ' hv => ?_)
    case _ =>
      obtain ⟨e1, τ, hτ, e2⟩ := hv
      cases e1
      subst e2
      have h1 := h.apps hτ
      cases hq : fndQ ring name with
      | none =>
        have hI : fndI ring name = -1 := by unfold fndI; rw [hq]
        have c1 : decide (fndI ring name ≥ 0) = false := by rw [hI]; rfl
        refine pao [.b false] rfl ?_ ?_
        · (repeat' with_reducible apply AllP_cons) <;> try exact aC
        refine S_ret ⟨_, _, rfl, trivial, ?_, es, ?_, QKeep.app⟩
        · show Out.ret (.bool (decide (fndI ring name ≥ 0))) = _
          rw [c1]; rfl
        · unfold drpR; rw [hq]; exact h1
      | some p =>
        obtain ⟨i, k⟩ := p
        have hI : fndI ring name = (i : Int) := by unfold fndI; rw [hq]
        have hK : fndK ring name = (k : Int) := by unfold fndK; rw [hq]
        have c1 : decide (fndI ring name ≥ 0) = true := by rw [hI]; exact decide_eq_true (by omega)
        obtain ⟨hi, hk, hn⟩ := fnd_some hq
        have ht := take_ok (σ ++ τ) q rid rv es quan ring i k h1 hmn hrl hi hk
        refine pao [.b true] rfl ?_ ?_
        · (repeat' with_reducible apply AllP_cons) <;> try exact aC
        rw [← hI, ← hK] at ht
        refine S_call rfl rfl rfl ht (fun v' σ' hv => ?_) (fun v' σ' hv => ?_)
        case _ =>
          obtain ⟨e1, es', h2, hk2⟩ := hv
          cases e1
          refine pao [] rfl ?_ ?_
          · (repeat' with_reducible apply AllP_cons) <;> try exact aC
          refine S_ret ⟨_, _, rfl, trivial, ?_, es', ?_, QKeep.app.trans hk2⟩
          · show Out.ret (.bool (decide (fndI ring name ≥ 0))) = _
            rw [c1]; rfl
          · unfold drpR; rw [hq]; exact h2
        case _ =>
          obtain ⟨e1, _⟩ := hv
          cases e1
    case _ =>
      obtain ⟨e1, _⟩ := hv
      cases e1
end Go.Proofs.Ytjaflkgfipaajaa
end
section
set_option linter.unusedVariables false
set_option linter.unusedSimpArgs false
namespace Go.Ab
open Go Go.WideShapes
def laidB (P : Program) : List Field → Nat → Option Nat
  | [], o => some o
  | f :: r, o => match Nat.beq f.offset o with
    | true => laidB P r (o + P.cellsOf f.type)
    | false => none
mutual
def plainB (P : Program) : Nat → TypeId → Bool
  | 0, _ => false
  | n + 1, t => match P.underlying t with
    | some .bool => Nat.beq (P.cellsOf t) 1
    | some (.int _) => Nat.beq (P.cellsOf t) 1
    | some .string => Nat.beq (P.cellsOf t) 1
    | some (.slice e) => match Nat.beq (P.cellsOf t) 1, Nat.beq (P.cellsOf e) 0 with
      | true, false => plainB P n e
      | _, _ => false
    | some (.struct fs) => match laidB P fs.toList 0 with
      | some m => match Nat.beq (P.cellsOf t) m with
        | true => plainAll P n fs.toList
        | false => false
      | none => false
    | _ => false
def plainAll (P : Program) : Nat → List Field → Bool
  | 0, _ => false
  | n + 1, fs => match fs with
    | [] => true
    | f :: r => match plainB P n f.type with
      | true => plainAll P n r
      | false => false
end
inductive RdD (P : Program) {H : Type} : TypeId → DataW H → AV → Prop
  | bool {t b} (ht : P.underlying t = some .bool) : RdD P t (.lit (.bool b)) (.bool b)
  | int {t k n} (ht : P.underlying t = some (.int k)) (hw : (Lit.int k n).wf = true) : RdD P t (.lit (.int k n)) (.int k n)
  | str {t s} (ht : P.underlying t = some .string) (hs : s.length ≤ maxLen) : RdD P t (.lit (.string s)) (.str s)
  | nils {t e} (ht : P.underlying t = some (.slice e)) : RdD P t .nil (.sl true false (P.cellsOf e) [])
  | sl {t e} {ds rest : List (DataW H)} {xs : List AV} (ht : P.underlying t = some (.slice e)) (hl : xs.length = ds.length) (hm : xs.length ≤ maxLen) (h : ∀ i (h1 : i < ds.length) (h2 : i < xs.length), RdD P e ds[i] xs[i]) : RdD P t (.slice ds rest) (.sl true false (P.cellsOf e) xs)
  | st {t} {fs : Array Field} {ds : List (DataW H)} {xs : List AV} (ht : P.underlying t = some (.struct fs)) (hd : ds.length = fs.size) (hx : xs.length = fs.size) (h : ∀ i (h1 : i < ds.length) (h2 : i < xs.length) (h3 : i < fs.size), RdD P fs[i].type ds[i] xs[i]) : RdD P t (.agg ds) (.agg (xs.flatMap AV.cells))
def CellsV (w : World) (cs : List Value) (az : List AV) : Prop := cs.length = az.length ∧ ∀ i (h1 : i < cs.length) (h2 : i < az.length), VRel (Rl.old w) w cs[i] az[i]
theorem CellsV.one {w : World} {v : Value} {a : AV} (h : VRel (Rl.old w) w v a) : CellsV w [v] [a] := by
  refine ⟨rfl, fun i h1 h2 => ?_⟩
  obtain rfl : i = 0 := by simpa using h1
  exact h
theorem laidB_flat {P : Program} : ∀ (fs : List Field) (o m : Nat) (w : World) (cs : List Value) (xs : List AV), laidB P fs o = some m → xs.length = fs.length → (∀ i (h1 : i < fs.length) (h2 : i < xs.length), CellsV w ((cs.drop fs[i].offset).take (P.cellsOf fs[i].type)) xs[i].cells ∧ xs[i].cells.length = P.cellsOf fs[i].type) →
    cs.length = m → o ≤ m ∧ CellsV w (cs.drop o) (xs.flatMap AV.cells)
  | [], o, m, w, cs, xs, h, hl, hc, hm => by
    simp only [laidB, Option.some.injEq] at h
    obtain rfl : xs = [] := List.eq_nil_of_length_eq_zero hl
    subst h
    refine ⟨Nat.le_refl _, ?_⟩
    rw [List.drop_of_length_le (by omega)]
    exact ⟨rfl, fun i h => absurd h (by simp)⟩
  | f :: r, o, m, w, cs, xs, h, hl, hc, hm => by
    rw [laidB] at h
    split at h
    case h_2 => cases h
    rename_i hb
    have ho := Nat.eq_of_beq_eq_true hb
    obtain ⟨x, xs, rfl⟩ : ∃ x xs', xs = x :: xs' := by
      cases xs with
      | nil => simp at hl
      | cons x xs => exact ⟨x, xs, rfl⟩
    have h0 := hc 0 (by simp) (by simp)
    simp only [List.getElem_cons_zero] at h0
    obtain ⟨h1, h2⟩ := laidB_flat r (o + P.cellsOf f.type) m w cs xs h (by simpa using hl) (fun i k1 k2 => hc (i + 1) (Nat.succ_lt_succ k1) (Nat.succ_lt_succ k2)) hm
    refine ⟨by omega, ?_⟩
    obtain ⟨⟨e1, e2⟩, e3⟩ := h0
    rw [ho] at e1 e2
    rw [List.flatMap_cons]
    have hsplit : cs.drop o = (cs.drop o).take (P.cellsOf f.type) ++ cs.drop (o + P.cellsOf f.type) := by
      rw [← List.drop_drop, List.take_append_drop]
    rw [hsplit]
    refine ⟨by rw [List.length_append, List.length_append, e1, h2.1], fun i k1 k2 => ?_⟩
    by_cases hi : i < x.cells.length
    · rw [List.getElem_append_left (by omega), List.getElem_append_left hi]
      exact e2 i (by omega) hi
    · rw [List.getElem_append_right (by omega), List.getElem_append_right (by omega)]
      have : i - ((cs.drop o).take (P.cellsOf f.type)).length = i - x.cells.length := by omega
      simp only [this]
      exact h2.2 _ _ _
theorem read_cells {H : Type} {enc : TypeId × Value → H} {P : Program} {W : World} : ∀ (fuel n : Nat) (t : TypeId) (cs : List Value) (d : DataW H) (ps : List MemPlace), DataW.trod enc P W 0 (fun _ => true) true fuel t cs = some (d, ps) → plainB P n t = true →
    ∃ a, RdD P t d a ∧ a.cells.length = P.cellsOf t ∧ CellsV W cs a.cells ∧ (∀ v, (∃ xs, v = .agg xs ∧ xs.toList = cs ∧ aggT P t = some true) ∨ ([v] = cs ∧ aggT P t = some false) → VRel (Rl.old W) W v a) := by
  intro fuel
  induction fuel with
  | zero => intro n t cs d ps h _; simp [DataW.trod] at h
  | succ fuel ih =>
    intro n t cs d ps h hp
    have hall : ∀ (n : Nat) (fs : List Field), plainAll P n fs = true → ∀ i (hi : i < fs.length), ∃ m, plainB P m fs[i].type = true := by
      intro n
      induction n with
      | zero => intro fs h; simp [plainAll] at h
      | succ n ihn =>
        intro fs h i hi
        cases fs with
        | nil => simp at hi
        | cons f r =>
          rw [plainAll] at h
          split at h
          · rename_i hb
            cases i with
            | zero => exact ⟨n, hb⟩
            | succ i => exact ihn r h i (by simpa using hi)
          · cases h
    cases n with
    | zero => simp [plainB] at hp
    | succ n =>
      rw [plainB] at hp
      split at hp
      ·
        rename_i ht
        obtain ⟨b, rfl, hx⟩ := DataW.trod_bool ht h
        cases hx
        refine ⟨.bool b, .bool ht, (Nat.eq_of_beq_eq_true hp).symm, .one .bool, ?_⟩
        rintro v (⟨xs, rfl, h1, h2⟩ | ⟨h1, h2⟩)
        · simp [aggT, ht] at h2
        · cases h1; exact .bool
      · rename_i k ht
        obtain ⟨m, rfl, hx, hw⟩ := DataW.trod_int ht h
        cases hx
        refine ⟨.int _ m, .int ht hw, (Nat.eq_of_beq_eq_true hp).symm, .one .int, ?_⟩
        rintro v (⟨xs, rfl, h1, h2⟩ | ⟨h1, h2⟩)
        · simp [aggT, ht] at h2
        · cases h1; exact .int
      · rename_i ht
        obtain ⟨s, rfl, hx, hw⟩ := DataW.trod_string ht h
        cases hx
        refine ⟨.str s.data.toList, .str ht (by rw [Array.length_toList]; exact hw), (Nat.eq_of_beq_eq_true hp).symm, .one (.str rfl), ?_⟩
        rintro v (⟨xs, rfl, h1, h2⟩ | ⟨h1, h2⟩)
        · simp [aggT, ht] at h2
        · cases h1; exact .str rfl
      ·
        rename_i e ht
        split at hp
        case h_2 => cases hp
        rename_i hc1 hc0
        have hc1 := Nat.eq_of_beq_eq_true hc1
        have hpos : 0 < P.cellsOf e := by
          rcases Nat.eq_zero_or_pos (P.cellsOf e) with h0 | h0
          · rw [h0] at hc0; cases hc0
          · exact h0
        rcases DataW.trod_slice ht h with ⟨rfl, hx⟩ | ⟨a, len, cap, elems, rest, fu, hfu, rfl, hx, _, hl, hm, hlen, hel, hsp, hns⟩
        · cases hx
          refine ⟨_, .nils ht, hc1.symm, .one (.sl0 (fun h => by cases h)), ?_⟩
          rintro v (⟨xs, rfl, h1, h2⟩ | ⟨h1, h2⟩)
          · simp [aggT, ht] at h2
          · cases h1; exact .sl0 (fun h => by cases h)
        · cases hx
          obtain rfl : fuel = fu := by omega
          have each : ∀ i (hi : i < elems.length), ∃ x, RdD P e (elems[i]).1 x ∧ x.cells.length = P.cellsOf e ∧ ∃ ecs : List Value, W.cells? 0 (a.add (i * P.cellsOf e)) (P.cellsOf e) = some ecs ∧ CellsV W ecs x.cells := by
            intro i hi
            have h1 := hel i (by omega)
            rw [List.getElem?_eq_getElem hi, Option.bind_eq_some_iff] at h1
            obtain ⟨ecs, h2, h3⟩ := h1
            obtain ⟨x, k1, k2, k3, _⟩ := ih n e ecs (elems[i]).1 (elems[i]).2 h3 hp
            exact ⟨x, k1, k2, ecs, h2, k3⟩
          have : ∃ xs : List AV, xs.length = elems.length ∧ ∀ i (hi : i < elems.length) (hx : i < xs.length), RdD P e (elems[i]).1 xs[i] ∧ xs[i].cells.length = P.cellsOf e ∧ ∃ ecs : List Value, W.cells? 0 (a.add (i * P.cellsOf e)) (P.cellsOf e) = some ecs ∧ CellsV W ecs xs[i].cells := by
            refine ⟨(List.finRange elems.length).map fun i => Classical.choose (each i.1 i.2), by simp, fun i hi hx => ?_⟩
            simp only [List.getElem_map, List.getElem_finRange]
            exact Classical.choose_spec (each i hi)
          obtain ⟨xs, hxl, hxs⟩ := this
          have hv : VRel (Rl.old W) W (.slice (some a) len cap) (.sl true false (P.cellsOf e) xs) := by
            rcases Nat.eq_zero_or_pos len with h0 | h0
            · subst h0
              obtain rfl : xs = [] := List.eq_nil_of_length_eq_zero (by omega)
              exact .sl0 (fun h => by cases h)
            · obtain ⟨b, o, sp⟩ := a
              obtain ⟨_, _, ecs0, hc, _⟩ := hxs 0 (by omega) (by omega)
              obtain ⟨_, hcl, hcc⟩ := World.cells?_some hc
              have hcell0 := hcc 0 hpos
              rw [List.getElem?_eq_getElem (by omega)] at hcell0
              have hsp : sp = none := by
                cases sp with
                | none => rfl
                | some s =>
                  simp [Addr.add, World.cell?] at hcell0
                  split at hcell0 <;> cases hcell0
              subst hsp
              have hb : b < W.heap.size := by
                rw [Addr.add_lit] at hcell0
                rcases Nat.lt_or_ge b W.heap.size with h | h
                · exact h
                · simp [World.cell?, Addr.add, Array.getElem?_eq_none h] at hcell0
              have hcel : ∀ i, i < xs.length → ∀ j, j < P.cellsOf e → ∃ v, W.cell? ⟨b, o + i * P.cellsOf e + j, none⟩ = some v ∧ ∀ (hi : i < xs.length) (hj : j < (AV.cells xs[i]).length), VRel (Rl.old W) W v (AV.cells xs[i])[j] := by
                intro i hi j hj
                obtain ⟨_, hxc, ecs, hc, hcv⟩ := hxs i (by omega) hi
                obtain ⟨_, hcl, hcc⟩ := World.cells?_some hc
                have h1 := hcc j hj
                rw [List.getElem?_eq_getElem (by omega)] at h1
                rw [Addr.add_lit, Addr.add_lit] at h1
                refine ⟨ecs[j], h1, fun _ hj' => hcv.2 j _ hj'⟩
              refine .sl (by omega) hl (fun h => by cases h) hb (fun _ => hb) (fun x hx => ?_) (fun i j => (W.cell? ⟨b, o + i * P.cellsOf e + j, none⟩).getD undef) (fun i hi j hj => ?_) (fun i hi j hj => ?_)
              · obtain ⟨i, hi, rfl⟩ := List.getElem_of_mem hx
                exact (hxs i (by omega) hi).2.1
              · obtain ⟨v, h1, _⟩ := hcel i hi j hj
                rw [h1]; rfl
              · obtain ⟨v, h1, h2⟩ := hcel i hi j (by rw [(hxs i (by omega) hi).2.1] at hj; exact hj)
                rw [h1]
                exact h2 hi hj
          refine ⟨.sl true false (P.cellsOf e) xs, .sl ht (by simp [hxl]) (by omega) (fun i h1 h2 => by simpa using (hxs i (by simpa using h1) h2).1), hc1.symm, .one hv, ?_⟩
          rintro v (⟨ys, rfl, h1, h2⟩ | ⟨h1, h2⟩)
          · simp [aggT, ht] at h2
          · cases h1; exact hv
      ·
        rename_i fs ht
        split at hp
        case h_2 => cases hp
        rename_i m hm
        split at hp
        case h_2 => cases hp
        rename_i hcm
        have hcm := Nat.eq_of_beq_eq_true hcm
        obtain ⟨ys, fu, hfu, hx, hl, hyl, hy⟩ := DataW.trod_struct ht h
        obtain rfl : fuel = fu := by omega
        cases hx
        have each : ∀ i (hi : i < fs.toList.length) (hi' : i < ys.length), ∃ x, RdD P (fs.toList[i]).type (ys[i]).1 x ∧ x.cells.length = P.cellsOf (fs.toList[i]).type ∧ CellsV W ((cs.drop (fs.toList[i]).offset).take (P.cellsOf (fs.toList[i]).type)) x.cells := by
          intro i hi hi'
          have h1 := hy i (fs.toList[i]) (by simp at hi; simp [hi])
          rw [List.getElem?_eq_getElem hi'] at h1
          obtain ⟨k, hk⟩ := hall n fs.toList hp i hi
          obtain ⟨x, k1, k2, k3, _⟩ := ih k _ _ (ys[i]).1 (ys[i]).2 h1 hk
          exact ⟨x, k1, k2, k3⟩
        have hfl : fs.toList.length = ys.length := by simp [hyl]
        have : ∃ xs : List AV, xs.length = fs.toList.length ∧ ∀ i (hi : i < fs.toList.length) (hi' : i < ys.length) (hx : i < xs.length), RdD P (fs.toList[i]).type (ys[i]).1 xs[i] ∧ xs[i].cells.length = P.cellsOf (fs.toList[i]).type ∧ CellsV W ((cs.drop (fs.toList[i]).offset).take (P.cellsOf (fs.toList[i]).type)) xs[i].cells := by
          refine ⟨(List.finRange fs.toList.length).map fun i => Classical.choose (each i.1 i.2 (by omega)), by simp, fun i hi hi' hx => ?_⟩
          simp only [List.getElem_map, List.getElem_finRange]
          exact Classical.choose_spec (each i hi hi')
        obtain ⟨xs, hxl, hxs⟩ := this
        obtain ⟨_, hcv⟩ := laidB_flat fs.toList 0 m W cs xs hm hxl (fun i h1 h2 => ⟨(hxs i h1 (by omega) h2).2.2, (hxs i h1 (by omega) h2).2.1⟩) (by omega)
        rw [List.drop_zero] at hcv
        refine ⟨.agg (xs.flatMap AV.cells), .st ht (by simp [hyl]) (by simpa using hxl) (fun i h1 h2 h3 => by
          have := (hxs i (by simpa using h3) (by simpa using h1) h2).1
          simp only [Array.getElem_toList, List.getElem_map] at this ⊢
          exact this), by show (xs.flatMap AV.cells).length = _; rw [← hcv.1]; omega, hcv, ?_⟩
        rintro v (⟨zs, rfl, h1, h2⟩ | ⟨h1, h2⟩)
        · refine .agg (by rw [← hcv.1, ← h1]; simp) (fun i hi => ?_)
          have h3 : i < cs.length := by rw [hcv.1]; exact hi
          have := hcv.2 i h3 hi
          subst h1
          rw [Array.getD_eq_getD_getElem?, Array.getElem?_eq_getElem (by simpa using h3)]
          simpa using this
        · simp [aggT, ht] at h2
      · cases hp
theorem read_plain {H : Type} {enc : TypeId × Value → H} {P : Program} {W : World} {r : Reach} {base : Nat} {n : Nat} {t : TypeId} {v : Value} {d : DataW H} {ps : List MemPlace} (hp : plainB P n t = true) (hv : Value.okWide P W r base t v)
    (h : DataW.Trod enc P W 0 (fun _ => true) true t v d ps) : ∃ a, VRel (Rl.old W) W v a ∧ RdD P t d a := by
  obtain ⟨fuel, hf⟩ := h
  obtain ⟨a, h1, _, _, h2⟩ := read_cells fuel n t _ d ps hf hp
  refine ⟨a, h2 v ?_, h1⟩
  cases n with
  | zero => simp [plainB] at hp
  | succ n =>
    rw [plainB] at hp
    split at hp
    · rename_i ht
      obtain ⟨b, rfl⟩ := okWide_bool ht hv
      exact .inr ⟨rfl, by simp [aggT, ht]⟩
    · rename_i k ht
      obtain ⟨b, rfl⟩ := okWide_int ht hv
      exact .inr ⟨rfl, by simp [aggT, ht]⟩
    · rename_i ht
      obtain ⟨b, rfl⟩ := okWide_string ht hv
      exact .inr ⟨rfl, by simp [aggT, ht]⟩
    · rename_i e ht
      obtain ⟨a, len, cap, rfl⟩ := okWide_slice ht hv
      exact .inr ⟨rfl, by simp [aggT, ht]⟩
    · rename_i fs ht
      obtain ⟨cs, rfl, _⟩ := okWide_struct ht hv
      exact .inl ⟨cs, rfl, rfl, by simp [aggT, ht]⟩
    · cases hp
def RdDAll (P : Program) {H : Type} : List Field → List (DataW H) → List AV → Prop
  | [], [], [] => True
  | f :: fs, d :: ds, x :: xs => RdD P f.type d x ∧ RdDAll P fs ds xs
  | _, _, _ => False
theorem RdDAll.of {P : Program} {H : Type} : ∀ {fs : List Field} {ds : List (DataW H)} {xs : List AV}, ds.length = fs.length → xs.length = fs.length → (∀ i (h1 : i < ds.length) (h2 : i < xs.length) (h3 : i < fs.length), RdD P fs[i].type ds[i] xs[i]) → RdDAll P fs ds xs
  | [], ds, xs, h1, h2, _ => by
    obtain rfl : ds = [] := List.eq_nil_of_length_eq_zero h1
    obtain rfl : xs = [] := List.eq_nil_of_length_eq_zero h2
    trivial
  | f :: fs, ds, xs, h1, h2, h => by
    cases ds with
    | nil => simp at h1
    | cons d ds =>
      cases xs with
      | nil => simp at h2
      | cons x xs =>
        exact ⟨h 0 (by simp) (by simp) (by simp), RdDAll.of (by simpa using h1) (by simpa using h2) (fun i k1 k2 k3 => h (i + 1) (Nat.succ_lt_succ k1) (Nat.succ_lt_succ k2) (Nat.succ_lt_succ k3))⟩
theorem RdDAll.cons {P : Program} {H : Type} {f : Field} {fs : List Field} {ds : List (DataW H)} {xs : List AV} (h : RdDAll P (f :: fs) ds xs) : ∃ d ds' x xs', ds = d :: ds' ∧ xs = x :: xs' ∧ RdD P f.type d x ∧ RdDAll P fs ds' xs' := by
  match ds, xs, h with
  | d :: ds', x :: xs', ⟨h1, h2⟩ => exact ⟨d, ds', x, xs', rfl, rfl, h1, h2⟩
theorem RdDAll.nil {P : Program} {H : Type} {ds : List (DataW H)} {xs : List AV} (h : RdDAll P [] ds xs) : ds = [] ∧ xs = [] := by
  match ds, xs, h with
  | [], [], _ => exact ⟨rfl, rfl⟩
section
variable {P : Program} {H : Type} {t : TypeId} {d : DataW H} {a : AV}
theorem RdD.inv_st {fs : Array Field} (h : RdD P t d a) (ht : P.underlying t = some (.struct fs)) : ∃ ds xs, d = .agg ds ∧ a = .agg (xs.flatMap AV.cells) ∧ RdDAll P fs.toList ds xs := by
  cases h with
  | st ht' hd hx h =>
    rw [ht] at ht'
    cases ht'
    exact ⟨_, _, rfl, rfl, .of (by simpa using hd) (by simpa using hx) (fun i h1 h2 h3 => by simpa using h i h1 h2 (by simpa using h3))⟩
  | bool ht' => rw [ht] at ht'; cases ht'
  | str ht' => rw [ht] at ht'; cases ht'
  | int ht' => rw [ht] at ht'; cases ht'
  | nils ht' => rw [ht] at ht'; cases ht'
  | sl ht' => rw [ht] at ht'; cases ht'
theorem RdD.inv_str (h : RdD P t d a) (ht : P.underlying t = some .string) : ∃ s, d = .lit (.string s) ∧ a = .str s ∧ s.length ≤ maxLen := by
  cases h with
  | str ht' hs => exact ⟨_, rfl, rfl, hs⟩
  | bool ht' => rw [ht] at ht'; cases ht'
  | int ht' => rw [ht] at ht'; cases ht'
  | nils ht' => rw [ht] at ht'; cases ht'
  | sl ht' => rw [ht] at ht'; cases ht'
  | st ht' => rw [ht] at ht'; cases ht'
theorem RdD.inv_int {k : IntKind} (h : RdD P t d a) (ht : P.underlying t = some (.int k)) : ∃ n, d = .lit (.int k n) ∧ a = .int k n ∧ (Lit.int k n).wf = true := by
  cases h with
  | int ht' hs => rw [ht] at ht'; cases ht'; exact ⟨_, rfl, rfl, hs⟩
  | bool ht' => rw [ht] at ht'; cases ht'
  | str ht' => rw [ht] at ht'; cases ht'
  | nils ht' => rw [ht] at ht'; cases ht'
  | sl ht' => rw [ht] at ht'; cases ht'
  | st ht' => rw [ht] at ht'; cases ht'
theorem RdD.inv_sl {e : TypeId} (h : RdD P t d a) (ht : P.underlying t = some (.slice e)) :
    ∃ (ds : List (DataW H)) (xs : List AV), a = .sl true false (P.cellsOf e) xs ∧ xs.length = ds.length ∧ xs.length ≤ maxLen ∧ (∀ i (h1 : i < ds.length) (h2 : i < xs.length), RdD P e ds[i] xs[i]) ∧ ((d = .nil ∧ ds = []) ∨ ∃ rest, d = .slice ds rest) := by
  cases h with
  | nils ht' => rw [ht] at ht'; cases ht'; exact ⟨[], [], rfl, rfl, Nat.zero_le _, fun i h => absurd h (by simp), .inl ⟨rfl, rfl⟩⟩
  | sl ht' hl hm h => rw [ht] at ht'; cases ht'; exact ⟨_, _, rfl, hl, hm, h, .inr ⟨_, rfl⟩⟩
  | bool ht' => rw [ht] at ht'; cases ht'
  | int ht' => rw [ht] at ht'; cases ht'
  | str ht' => rw [ht] at ht'; cases ht'
  | st ht' => rw [ht] at ht'; cases ht'
theorem RdD.each {α : Type} {e : TypeId} (f : α → AV) (g : α → DataW H → Prop) {ds : List (DataW H)} {xs : List AV} (hl : xs.length = ds.length) (h : ∀ i (h1 : i < ds.length) (h2 : i < xs.length), RdD P e ds[i] xs[i])
    (hf : ∀ d x, RdD P e d x → ∃ y, x = f y ∧ g y d) : ∃ ys : List α, xs = ys.map f ∧ ys.length = ds.length ∧ ∀ i (h1 : i < ds.length) (h2 : i < ys.length), g ys[i] ds[i] := by
  induction xs generalizing ds with
  | nil =>
    obtain rfl : ds = [] := List.eq_nil_of_length_eq_zero (by simpa using hl.symm)
    exact ⟨[], rfl, rfl, fun i h => absurd h (by simp)⟩
  | cons x xs ih =>
    cases ds with
    | nil => simp at hl
    | cons d ds =>
      obtain ⟨y, hy, hg⟩ := hf d x (h 0 (by simp) (by simp))
      obtain ⟨ys, h1, h2, h3⟩ := ih (ds := ds) (by simpa using hl) (fun i k1 k2 => h (i + 1) (Nat.succ_lt_succ k1) (Nat.succ_lt_succ k2))
      refine ⟨y :: ys, by rw [hy, h1]; rfl, by simp [h2], fun i k1 k2 => ?_⟩
      cases i with
      | zero => exact hg
      | succ i => exact h3 i (Nat.lt_of_succ_lt_succ k1) (Nat.lt_of_succ_lt_succ k2)
end
end Go.Ab
end
section
set_option linter.unusedVariables false
set_option linter.unusedSimpArgs false
namespace Go.Ab
open Go Go.WideShapes
mutual
def avB : AV → Nat
  | .str s => s.length
  | .sl _ _ _ xs => avS xs
  | .agg cs => avC cs
  | _ => 0
def avS : List AV → Nat
  | [] => 0
  | x :: r => avB x + 1 + avS r
def avC : List AV → Nat
  | [] => 0
  | x :: r => avB x + avC r
end
theorem avC_append (a b : List AV) : avC (a ++ b) = avC a + avC b := by
  induction a with
  | nil => simp [avC]
  | cons x a ih => simp only [List.cons_append, avC, ih]; omega
theorem avC_cells (x : AV) : avC x.cells ≤ avB x := by
  cases x <;> simp [AV.cells, avC, avB]
theorem avC_flat (xs : List AV) : avC (xs.flatMap AV.cells) ≤ avC xs := by
  induction xs with
  | nil => simp
  | cons x xs ih =>
    have := avC_cells x
    simp only [List.flatMap_cons, avC_append, avC]; omega
theorem avC_le_avS (xs : List AV) : avC xs ≤ avS xs := by
  induction xs with
  | nil => simp [avC, avS]
  | cons x xs ih => simp only [avC, avS]; omega
theorem avS_mem {x : AV} : ∀ {xs : List AV}, x ∈ xs → avB x + 1 ≤ avS xs
  | y :: ys, h => by
    rcases List.mem_cons.1 h with rfl | h
    · simp only [avS]; omega
    · have := avS_mem h; simp only [avS]; omega
theorem avS_len : ∀ xs : List AV, xs.length ≤ avS xs
  | [] => Nat.zero_le _
  | x :: xs => by have := avS_len xs; simp only [avS, List.length_cons]; omega
theorem bulk_all {P : Program} {H : Type} {B : DataW H → Nat} {BA : List (DataW H) → Nat} (hn : BA [] = 0) (hc : ∀ d r, BA (d :: r) = B d + BA r) : ∀ {ds : List (DataW H)} {xs : List AV}, xs.length = ds.length →
    (∀ i (h1 : i < ds.length) (h2 : i < xs.length), avB xs[i] + 1 ≤ B ds[i]) → avS xs ≤ BA ds
  | [], xs, hl, h => by
    obtain rfl : xs = [] := List.eq_nil_of_length_eq_zero (by simpa using hl)
    simp [avS]
  | d :: ds, xs, hl, h => by
    cases xs with
    | nil => simp at hl
    | cons x xs =>
      have h0 := h 0 (by simp) (by simp)
      have := bulk_all (P := P) (B := B) hn hc (ds := ds) (xs := xs) (by simpa using hl) (fun i h1 h2 => h (i + 1) (Nat.succ_lt_succ h1) (Nat.succ_lt_succ h2))
      simp only [avS, hc]
      simp only [List.getElem_cons_zero] at h0
      omega
theorem RdD.bulk {P : Program} {H : Type} {B : DataW H → Nat} {BA : List (DataW H) → Nat} (hn : BA [] = 0) (hc : ∀ d r, BA (d :: r) = B d + BA r) (h1 : ∀ d, 1 ≤ B d) (hs : ∀ s, B (.lit (.string s)) = s.length + 1)
    (hsl : ∀ a b, B (.slice a b) = BA a + BA b + 1) (hag : ∀ a, B (.agg a) = BA a + 1) {t : TypeId} {d : DataW H} {a : AV} (h : RdD P t d a) : avB a + 1 ≤ B d := by
  induction h with
  | bool => simpa [avB] using h1 _
  | int => simpa [avB] using h1 _
  | str => simp [avB, hs]
  | nils => simpa [avB, avS] using h1 _
  | sl ht hl hm h ih =>
    have := bulk_all (P := P) (B := B) hn hc hl ih
    rw [hsl]; simp only [avB]; omega
  | st ht hd hx h ih =>
    have := bulk_all (P := P) (B := B) hn hc (by omega) (fun i a b => ih i a b (by omega))
    rw [hag]; simp only [avB]
    rename_i t fs ds xs
    have k1 := avC_flat xs
    have k2 := avC_le_avS xs
    omega
end Go.Ab
end
section
set_option linter.unusedVariables false
set_option linter.unusedSimpArgs false
set_option maxRecDepth 20000
namespace Go.Proofs.Ytjaflkgfipaajaa
open Go Go.Ab
def IsI64 (z : Int) : Prop := -9223372036854775808 ≤ z ∧ z ≤ 9223372036854775807
end Go.Proofs.Ytjaflkgfipaajaa
end
section
set_option linter.unusedVariables false
set_option linter.unusedSimpArgs false
set_option maxRecDepth 20000
namespace Go.Proofs.Ytjaflkgfipaajaa
open Go Go.Ab
def QJ.wf (j : QJ) : Prop := IsI64 j.ten ∧ IsI64 j.cost
theorem open_job {H : Type} {d : DataW H} {a : AV} (h : RdD Try.prog 34 d a) : ∃ f : QJ, a = jobA f ∧ f.wf := by
  obtain ⟨ds, xs, rfl, rfl, hall⟩ := h.inv_st Try.underlying34
  obtain ⟨d0, ds, x0, xs, rfl, rfl, h0, hall⟩ := hall.cons
  obtain ⟨d1, ds, x1, xs, rfl, rfl, h1, hall⟩ := hall.cons
  obtain ⟨d2, ds, x2, xs, rfl, rfl, h2, hall⟩ := hall.cons
  obtain ⟨rfl, rfl⟩ := hall.nil
  obtain ⟨s0, rfl, rfl, w0⟩ := h0.inv_int Try.underlying3
  obtain ⟨s1, rfl, rfl, _⟩ := h1.inv_str Try.underlying9
  obtain ⟨s2, rfl, rfl, w2⟩ := h2.inv_int Try.underlying3
  exact ⟨⟨s0, s1, s2⟩, rfl, by simpa [IsI64, Lit.wf, IntKind.min, IntKind.max, IntKind.signed, IntKind.bits] using w0, by simpa [IsI64, Lit.wf, IntKind.min, IntKind.max, IntKind.signed, IntKind.bits] using w2⟩
def jobsA (l : List QJ) : List AV := l.map jobA
theorem jobsA_len (l : List QJ) : (jobsA l).length = l.length := by simp [jobsA]
theorem jobsA_bulk (l : List QJ) : ∀ j ∈ l, j.name.length ≤ avS (jobsA l) := fun j hj => by
  have h1 := avS_mem (show jobA j ∈ jobsA l from List.mem_map_of_mem hj)
  have h2 : avB (jobA j) = 0 + (j.name.length + (0 + 0)) := rfl
  omega
theorem open_J {H : Type} {d : DataW H} {a : AV} (h : RdD Try.prog 29 d a) : ∃ l : List QJ, a = .sl true false 3 (jobsA l) ∧ ∀ j ∈ l, j.wf := by
  obtain ⟨ds, xs, rfl, hl, hm, hall, _⟩ := h.inv_sl Try.underlying29
  obtain ⟨ys, rfl, hy, hg⟩ := RdD.each jobA (fun j _ => j.wf) hl hall (fun d x h => by
    obtain ⟨f, rfl, hf⟩ := open_job h
    exact ⟨f, rfl, hf⟩)
  have hc : Try.prog.cellsOf 34 = 3 := by kernel_rfl
  exact ⟨ys, by rw [hc]; rfl, fun z hz => by
    obtain ⟨i, hi, rfl⟩ := List.getElem_of_mem hz
    exact hg i (by omega) hi⟩
end Go.Proofs.Ytjaflkgfipaajaa
end
section
set_option linter.unusedVariables false
set_option linter.unusedSimpArgs false
namespace Go.Ab
open Go
section
variable {cx : Cx} {n : Nat} {B : Bs} {k : List AI} {Q : Post} {fr : Fr} {σ : Heap}
theorem StepX.d {K : List Nat} {all : Array Oper} {o : Oper} {v : AV} (h : StepX cx n all σ σ K fr o v) : StepD cx n all σ K fr o v := by
  refine ⟨h.1, ?_⟩
  rcases h.2 with ⟨h1, h2, _⟩ | h1
  · exact .inl ⟨h1, h2⟩
  · exact .inr h1
theorem OpSpec.loadRA {o : Oper} {t : TypeId} {a : Operand} {m : Nat} {st : Bool} {cs : List AV} {x : AV} (ho : o.op = .load t a) (ha : aggT cx.P t = some true) (hm : szOf cx.P t = some m) (hea : ev cx fr a = .rp st cs) (hl : m ≤ cs.length) (hx : x = .agg (cs.take m)) : OpSpec cx n fr σ o x σ := by
  intro r ac w hi hf
  refine loadA_run (C := [m ≤ cs.length, x = .agg (cs.take m)]) hi hf ?_ ⟨hl, hx, trivial⟩
  rw [ho]
  simp only [loadA, ha, hm, hea, loadA.loadC]
end
end Go.Ab
end
section
set_option linter.unusedVariables false
set_option linter.unusedSimpArgs false
set_option maxRecDepth 20000
namespace Go.Proofs.Ytjaflkgfipaajaa
open Go Go.Ab
def texts (l : List (List UInt8)) : List AV := l.map .str
theorem texts_any {st : Bool} (l : List (List UInt8)) : ∀ x ∈ texts l, Free st x := by
  intro x hx
  obtain ⟨y, _, rfl⟩ := List.mem_map.1 hx
  exact .str
theorem texts_len (l : List (List UInt8)) : (texts l).length = l.length := by simp [texts]
theorem texts_get {l : List (List UInt8)} {i : Nat} (h : i < l.length) : (texts l)[i]? = some (.str l[i]) := by simp [texts, h]
end Go.Proofs.Ytjaflkgfipaajaa
end
section
set_option linter.unusedVariables false
set_option linter.unusedSimpArgs false
set_option maxRecDepth 20000
set_option maxHeartbeats 4000000
namespace Go.Proofs.Ytjaflkgfipaajaa
open Go Go.Ab
def lessN (s : List UInt8) : List (List UInt8) → Nat
  | [] => 0
  | x :: r => if Op.bytesLess x s = true then lessN s r + 1 else 0
def addT (l : List (List UInt8)) (s : List UInt8) : List (List UInt8) := if l[lessN s l]? = some s then l else l.take (lessN s l) ++ s :: l.drop (lessN s l)
theorem lessN_le (s : List UInt8) : ∀ l : List (List UInt8), lessN s l ≤ l.length
  | [] => Nat.le_refl _
  | x :: r => by
    rw [lessN]
    split
    · have := lessN_le s r; rw [List.length_cons]; omega
    · exact Nat.zero_le _
theorem lessN_lt {s : List UInt8} : ∀ {l : List (List UInt8)} {i : Nat} (hi : i < l.length), i < lessN s l → Op.bytesLess l[i] s = true
  | x :: r, i, hi, h => by
    rw [lessN] at h
    split at h
    · rename_i hx
      cases i with
      | zero => exact hx
      | succ i => exact lessN_lt (l := r) (by simpa using hi) (by omega)
    · omega
theorem lessN_at {s : List UInt8} : ∀ {l : List (List UInt8)} (h : lessN s l < l.length), Op.bytesLess l[lessN s l] s = false
  | x :: r, h => by
    by_cases hx : Op.bytesLess x s = true
    · have e : lessN s (x :: r) = lessN s r + 1 := by rw [lessN, if_pos hx]
      have h' : lessN s r < r.length := by rw [e, List.length_cons] at h; omega
      have := lessN_at h'
      simp only [e, List.getElem_cons_succ]
      exact this
    · have e : lessN s (x :: r) = 0 := by rw [lessN, if_neg hx]
      simp only [e, List.getElem_cons_zero]
      simpa using hx
theorem txl (x : List (List UInt8)) : (texts x).length = x.length := List.length_map ..
theorem AddText_ok {fl : Bool} (l : List (List UInt8)) (s : List UInt8) (hl : l.length ≤ 1000000000) : Calc cx 13 [.sl true fl 1 (texts l), .str s] (.sl true false 1 (texts (addT l s))) :=
  pure_intro (fun a w => Try.call13 a w) Try.func13 rfl Try.ntmps13 rfl (.sl (fun _ => rfl) (texts_any _)) fun B => by
    have htl : (texts l).length = l.length := by simp [texts]
    have hle := lessN_le s l
    refine pB [] rfl ?_
    refine S_while (α := Nat) (fun i => [(0, .sl true fl 1 (texts l)), (1, .str s), (5, .int .i64 (i : Nat))]) (fun _ => []) (fun i => i ≤ lessN s l) (fun i => l.length - i) 0
      (Nat.zero_le _) (.cons rfl (.cons rfl (.cons rfl (.nil _)))) rfl ?_
    intro i hi
    have hi : i ≤ lessN s l := hi
    have hT : cutL (some (i : Int)) none (texts l) = texts (l.drop i) := by simp [cutL, texts]
    have hD : cutL none (some (i : Int)) (texts l) = texts (l.take i) := by simp [cutL, texts]
    have hone' : ∀ (x : List (List UInt8)), ∀ y ∈ texts x, y.one = true := by
      intro x y hy
      obtain ⟨t, _, rfl⟩ := List.mem_map.1 hy; rfl
    have hone : ∀ {xs : List AV} (x : List (List UInt8)), xs = texts x → ∀ y ∈ flatA 1 xs, y.one = true := by
      intro xs x hx y hy
      have hy : y ∈ xs := hy
      rw [hx] at hy
      exact hone' x y hy
    by_cases hlt : i < l.length
    · have e1 : decide ((i : Int) < (((texts l).length : Nat) : Int)) = true := decide_eq_true (by omega)
      have g1 : (texts l)[(i : Int).toNat]? = some (.str l[i]) := by rw [Int.toNat_natCast]; simp [texts, List.getElem?_eq_getElem hlt]
      by_cases hil : i < lessN s l
      · have e2 := lessN_lt hlt hil
        refine pB [.b true, .v (.str l[i]), .b true] rfl ?_
        exact S_round (i + 1) (by show l.length - (i + 1) < l.length - i; omega) hil (.cons rfl (.cons rfl (.cons (nX (by omega)) (.nil _)))) rfl
      · have hie : i = lessN s l := by omega
        have e2 : Op.bytesLess l[i] s = false := by subst hie; exact lessN_at hlt
        by_cases heq : l[i] = s
        · have e3 : (l[i] == s) = true := by simpa using heq
          have hres : addT l s = l := by unfold addT; rw [← hie, List.getElem?_eq_getElem hlt, heq, if_pos rfl]
          rw [hres]
          refine pB [.b true, .v (.str l[i]), .b false, .b true, .v (.str l[i]), .b true] rfl ?_
          refine S_ret ⟨_, _, rfl, trivial, _, rfl, ?_⟩
          show Frz true [] (.sl true fl 1 (texts l)) (.sl true false 1 (texts l))
          exact .full (fun _ => rfl) (texts_any l)
        · have e3 : (l[i] == s) = false := by simpa using heq
          have hres : addT l s = l.take i ++ s :: l.drop i := by unfold addT; rw [← hie, List.getElem?_eq_getElem hlt, if_neg (fun h => heq (Option.some.inj h))]
          rw [hres]
          refine pa [.b true, .v (.str l[i]), .b false, .b true, .v (.str l[i]), .b false, .d 9 10 [] (fun _ => [(0, some (.cells (.str s :: texts (l.drop i)) ⟨false, none⟩))]) [.ms 0 0 0 ((l.drop i).length + 1) 1 false]] rfl ?_ ?_
          · (repeat' with_reducible apply AllP_cons) <;> try exact aC
            · exact hone _ hT
            · exact hone _ hT
            · rw [hT, txl, List.length_drop]; left; omega
            · show (1 + (cutL (some (i : Int)) none (texts l)).length) * 16 ≤ 140737488355328
              rw [hT, txl, List.length_drop]; omega
            · show 1 + (cutL (some (i : Int)) none (texts l)).length ≤ 9223372036854775807
              rw [hT, txl, List.length_drop]; omega
            · show AV.ms 0 0 0 (1 + (cutL (some (i : Int)) none (texts l)).length) 1 false = _
              rw [hT, txl, Nat.add_comm]
            · show ([(0, some (.cells ([.str s] ++ cutL (some (i : Int)) none (texts l)) ⟨false, none⟩))] : Heap) = _
              rw [hT]; rfl
            · show 0 + ((l.drop i).length + 1) * 1 ≤ (AV.str s :: texts (l.drop i)).length
              rw [List.length_cons, txl]; omega
            · intro y hy
              have hy : y ∈ (AV.str s :: texts (l.drop i)) := List.mem_of_mem_take hy
              rcases List.mem_cons.1 hy with rfl | hy
              · rfl
              · obtain ⟨t, _, rfl⟩ := List.mem_map.1 hy; rfl
            · exact hone _ hD
            · show ((cutL none (some (i : Int)) (texts l)).length + ((l.drop i).length + 1)) * 16 ≤ 140737488355328
              rw [hD, txl, List.length_take, List.length_drop]; omega
            · rw [hD, txl, List.length_take, List.length_drop]; omega
          refine S_ret ⟨_, _, rfl, trivial, _, rfl, ?_⟩
          show Frz true [(0, some (.cells (.str s :: texts (l.drop i)) ⟨false, none⟩)), (0, some (.cells (cutL none (some (i : Int)) (texts l) ++ (AV.str s :: texts (l.drop i)).take (((l.drop i).length + 1) * 1)) ⟨false, none⟩))] (.ms 1 0 0 ((cutL none (some (i : Int)) (texts l)).length + ((l.drop i).length + 1)) 1 false) _
          have hxs : texts (l.take i ++ s :: l.drop i) = texts (l.take i) ++ (AV.str s :: texts (l.drop i)) := by simp [texts]
          rw [hD, List.take_of_length_le (l := (AV.str s :: texts (l.drop i))) (by rw [List.length_cons, txl]; omega), ← hxs]
          exact Frz.ms1 rfl (hone' _) (by rw [hxs, List.length_append, List.length_cons, txl, txl]) (texts_any _)
    · have hie : i = l.length := by omega
      have hin : lessN s l = l.length := by omega
      have e1 : decide ((i : Int) < (((texts l).length : Nat) : Int)) = false := decide_eq_false (by omega)
      have hres : addT l s = l ++ [s] := by unfold addT; rw [hin, List.getElem?_eq_none (Nat.le_refl _), if_neg (by simp), List.take_length, List.drop_length]
      rw [hres]
      refine pa [.b false, .b false, .b false, .b false, .d 9 10 [1000001] (fun σ => σ) [.sl true true 1 [.str s]]] rfl ?_ ?_
      · (repeat' with_reducible apply AllP_cons) <;> try exact aC
        · exact OpSpec.append0 (st := true) (fl := true) (st' := true) (fl' := _) (sz := 1) rfl rfl rfl rfl (by show AV.sl true _ 1 (cutL (some (i : Int)) none (texts l)) = _; rw [hT, hie, List.drop_length]; rfl)
        · exact hone _ hD
        · show ((cutL none (some (i : Int)) (texts l)).length + 1) * 16 ≤ 140737488355328
          rw [hD, txl, List.length_take]; omega
        · show (cutL none (some (i : Int)) (texts l)).length + 1 ≤ 9223372036854775807
          rw [hD, txl, List.length_take]; omega
      refine S_ret ⟨_, _, rfl, trivial, _, rfl, ?_⟩
      show Frz true [(0, some (.cells (cutL none (some (i : Int)) (texts l) ++ [.str s]) ⟨false, none⟩))] (.ms 0 0 0 ((cutL none (some (i : Int)) (texts l)).length + 1) 1 false) _
      have hxs : texts (l ++ [s]) = texts l ++ [.str s] := by simp [texts]
      rw [hD, hie, List.take_length, ← hxs]
      exact Frz.ms1 rfl (hone' _) (by rw [hxs, List.length_append]; rfl) (texts_any _)
end Go.Proofs.Ytjaflkgfipaajaa
end
section
set_option linter.unusedVariables false
set_option linter.unusedSimpArgs false
set_option maxRecDepth 20000
namespace Go.Proofs.Ytjaflkgfipaajaa
open Go Go.Ab
theorem HasText_ok {st fl : Bool} (l : List (List UInt8)) (s : List UInt8) (hl : l.length ≤ 9223372036854775806) : Calc cx 14 [.sl st fl 1 (texts l), .str s] (.bool (l.contains s)) :=
  pure_intro (fun a w => Try.call14 a w) Try.func14 rfl Try.ntmps14 rfl .bool fun B => by
    have htl := texts_len l
    refine ab 1000 rfl trivial ?_
    refine S_while (α := Nat) (fun i => [(0, .sl st fl 1 (texts l)), (1, .str s), (5, .int .i64 (i : Nat))]) (fun _ => []) (fun i => i ≤ l.length ∧ s ∉ l.take i) (fun i => l.length - i) 0
      ⟨Nat.zero_le _, by simp⟩ (.cons rfl (.cons rfl (.cons rfl (.nil _)))) rfl ?_
    rintro i ⟨hi, hN⟩
    have hi : i ≤ l.length := hi
    refine ab 1000 rfl trivial ?_
    refine S_dec rfl (fun hlt => ?_) (fun hlt => ?_)
    · have hil : i < l.length := by have : (i : Int) < ((texts l).length : Nat) := hlt; omega
      refine ab 1000 rfl trivial ?_
      refine S_index (.str l[i]) rfl rfl rfl ⟨rfl, by omega, by rw [Int.toNat_natCast]; exact texts_get hil, trivial⟩ ?_
      refine ab 1000 rfl trivial ?_
      refine S_cond rfl (fun h => ?_) (fun h => ?_)
      · have h : l[i] = s := by simpa using (show (l[i] == s) = true from h)
        refine ab 1000 rfl trivial ?_
        refine S_retc .bool rfl trivial ?_
        rw [List.contains_iff_mem.2 (by rw [← h]; exact List.getElem_mem hil)]; rfl
      · have h : l[i] ≠ s := by simpa using (show (l[i] == s) = false from h)
        refine ab 1000 rfl trivial ?_
        refine S_round (i + 1) (by show l.length - (i + 1) < l.length - i; omega) ⟨hil, fun hm => ?_⟩ (.cons rfl (.cons rfl (.cons (ai64 rfl (by omega)) (.nil _)))) rfl
        rw [List.take_succ_eq_append_getElem hil] at hm
        rcases List.mem_append.1 hm with hm | hm
        · exact hN hm
        · simp at hm; exact h hm.symm
    · have hil : i = l.length := by have : ¬ (i : Int) < ((texts l).length : Nat) := hlt; omega
      rw [hil, List.take_length] at hN
      refine ab 1000 rfl trivial ?_
      refine S_retc .bool rfl trivial ?_
      have : l.contains s = false := by
        cases h : l.contains s with
        | false => rfl
        | true => exact absurd (List.contains_iff_mem.1 h) hN
      rw [this]; rfl
end Go.Proofs.Ytjaflkgfipaajaa
end
section
set_option linter.unusedVariables false
set_option linter.unusedSimpArgs false
namespace Go.Ab
open Go
section
variable {cx : Cx} {n : Nat} {B : Bs} {k : List AI} {Q : Post} {fr : Fr} {σ : Heap}
inductive Wv : AV → AV → Prop
  | refl {a} : Wv a a
  | nils {st fl sz} : Wv .nils (.sl st fl sz [])
  | sl {st fl st' fl' sz xs} (h1 : st' = true → st = true) (h2 : fl' = true → fl = true) : Wv (.sl st fl sz xs) (.sl st' fl' sz xs)
theorem Wv.rel {r : Rl} {w : World} {v : Value} {a a' : AV} (h : Wv a a') (hv : VRel r w v a) : VRel r w v a' := by
  cases h with
  | refl => exact hv
  | nils => cases hv; exact .sl0 (fun _ => rfl)
  | sl h1 h2 =>
    cases hv with
    | sl0 hf => exact .sl0 (fun h => hf (h2 h))
    | sl hn hc0 hf hI hS hsz f hc hv => exact .sl hn hc0 (fun h => hf (h2 h)) hI (fun h => hS (h1 h)) hsz f hc hv
theorem Wv.one {a a' : AV} (h : Wv a a') (ho : a.one = true) : a'.one = true := by
  cases h with
  | refl => exact ho
  | nils => rfl
  | sl _ _ => rfl
inductive Wvs : List AV → List AV → Prop
  | nil : Wvs [] []
  | cons {a b az bs} (h : Wv a b) (hs : Wvs az bs) : Wvs (a :: az) (b :: bs)
theorem Wvs.len {az bs : List AV} (h : Wvs az bs) : az.length = bs.length := by
  induction h with
  | nil => rfl
  | cons _ _ ih => simp [ih]
theorem Wvs.get {az bs : List AV} (h : Wvs az bs) : ∀ (i : Nat) (h1 : i < az.length) (h2 : i < bs.length), Wv az[i] bs[i] := by
  induction h with
  | nil => intro i h1; simp at h1
  | cons h hs ih =>
    intro i h1 h2
    cases i with
    | zero => exact h
    | succ i => exact ih i (by simpa using h1) (by simpa using h2)
theorem S_nilF {todo : List AI} (t sz : Nat) (st fl : Bool) (h : fr.get t = .nils) (hT : ∃ c k, todo = .code c :: k ∨ ∃ all l K, todo = .ops all l K :: k)
    (hk : S cx n B todo Q ((t, .sl st fl sz []) :: fr) σ) : S cx n B todo Q fr σ := by
  have key : ∀ r w a, FRel r w n fr a → FRel r w n ((t, .sl st fl sz []) :: fr) a := by
    intro r w a hf
    refine ⟨hf.size, fun s => ?_, fun vs hm => ?_⟩
    · rw [Fr.get_cons]
      split
      · rename_i hs
        subst hs
        have hv := hf.get t
        rw [h] at hv
        exact Wv.rel .nils hv
      · exact hf.get s
    · rw [Fr.get_cons] at hm
      split at hm
      · cases hm
      · exact hf.defs vs hm
  obtain ⟨c, k, hT⟩ := hT
  rcases hT with rfl | ⟨all, l, K, rfl⟩
  · exact fun r a w hi hf hd hx => hk r a w hi (key r w a hf) hd hx
  · exact fun r a w hi hf hd hx => hk r a w hi (key r w a hf) hd hx
end
end Go.Ab
end
section
set_option linter.unusedVariables false
set_option linter.unusedSimpArgs false
set_option maxRecDepth 20000
set_option maxHeartbeats 4000000
namespace Go.Proofs.Ytjaflkgfipaajaa
open Go Go.Ab
theorem addT_perm {l : List Nm} {s : Nm} (h : s ∉ l) : (addT l s).Perm (s :: l) := by
  unfold addT
  rw [if_neg (fun e => h (List.mem_of_getElem? e))]
  refine List.perm_middle.trans ?_
  rw [List.take_append_drop]
theorem isSome_iff {ring : List QT} {d : Nm} : (fndQ ring d).isSome = true ↔ d ∈ nmsQ ring := by
  constructor
  · intro h
    cases hq : fndQ ring d with
    | none => rw [hq] at h; cases h
    | some p =>
      obtain ⟨i, k⟩ := p
      obtain ⟨hi, hk, he⟩ := fnd_some hq
      have := (nms_take hi hk).subset (List.mem_cons_self ..)
      rw [he] at this
      exact this
  · intro h
    cases hq : fndQ ring d with
    | none => exact absurd h (fnd_none hq)
    | some p => rfl
theorem nms_drop {ring : List QT} {d : Nm} (h : d ∈ nmsQ ring) : (d :: nmsQ (drpR ring d)).Perm (nmsQ ring) := by
  cases hq : fndQ ring d with
  | none => exact absurd h (fnd_none hq)
  | some p =>
    obtain ⟨i, k⟩ := p
    obtain ⟨hi, hk, he⟩ := fnd_some hq
    have := nms_take hi hk
    rw [he] at this
    unfold drpR
    rw [hq]
    exact this
theorem QOk.drop {quan : Int} {ring : List QT} (h : QOk quan ring) (d : Nm) : QOk quan (drpR ring d) := by
  unfold drpR
  cases hq : fndQ ring d with
  | none => exact h
  | some p =>
    obtain ⟨i, k⟩ := p
    obtain ⟨hi, hk, he⟩ := fnd_some hq
    exact h.take hi hk
theorem QueueDrops_ok (quan : Int) (l : List QJ) (drops : List Nm) {st fl : Bool} (hq : -9223372036854775808 ≤ quan ∧ quan ≤ 9223372036854775807) (hb : avB (.sl true false 3 (jobsA l)) ≤ 1048576) (hdl : drops.length ≤ 1048576) (hjw : ∀ j ∈ l, j.wf) :
    Calc cx 5 [.int .i64 quan, .sl true false 3 (jobsA l), .sl st fl 1 (texts drops)] (.bool true) :=
  pure_intro (fun a w => Try.call5 a w) Try.func5 rfl Try.ntmps5 rfl .bool fun B => by
    have hjl := jobsA_len l
    have hll : l.length ≤ 1048576 := by
      have h1 := avS_len (jobsA l)
      have h2 : avS (jobsA l) ≤ 1048576 := hb
      omega
    have hnl : ∀ j ∈ l, j.name.length ≤ 1048576 := fun j hj => Nat.le_trans (jobsA_bulk l j hj) hb
    have hB := queueBegun_ok
    by_cases hqq : 1 ≤ quan ∧ quan ≤ 1000
    case neg =>
      have hN := NewE_ok quan (by omega)
      refine pao [.v (.bool true), .b false, .v (.tup [.nilp, .int .i64 3]), .b true, .b true] rfl ?_ ?_
      · (repeat' with_reducible apply AllP_cons) <;> try exact aC
        · exact ⟨[], hB, .nil _⟩
        · exact ⟨_, hN, .cons (.refl .int) (.nil _)⟩
      exact S_retc .bool rfl trivial rfl
    have hN := New_ok quan hqq
    refine pao [.v (.bool true), .b false, .f (.tup [.ptr 0 0 0, .int .i64 0]) (fun _ => newQ quan), .b false, .b false] rfl ?_ ?_
    · (repeat' with_reducible apply AllP_cons) <;> try exact aC
      · exact ⟨[], hB, .nil _⟩
    refine S_ghost (id := 0) (gid := 1) (gver := 0) (j := 1) (σ' := newQ quan ++ [(0, some (.cells [] ⟨false, none⟩))]) 1 ⟨false, none⟩ rfl rfl rfl (by decide) ⟨_, _, .inl rfl⟩ ?_
    refine S_heap (newH quan) rfl ?_
    refine S_nilF 9 1 true false rfl ⟨_, _, .inl rfl⟩ ?_
    refine S_nilF 10 1 true false rfl ⟨_, _, .inl rfl⟩ ?_
    refine S_while (α := (Heap × Nat × List QL × List QT) × List Nm × Nat) (fun s => [(1, .sl true false 3 (jobsA l)), (2, .sl st fl 1 (texts drops)), (7, .ptr 0 0 0), (9, .sl true false 1 (texts s.2.1)), (10, .sl true false 1 (texts [])), (11, .int .i64 (s.2.2 : Nat))]) (fun s => s.1.1)
      (fun s => QAt s.1.1 0 1 s.1.2.1 s.1.2.2.1 quan s.1.2.2.2 ∧ QOk quan s.1.2.2.2 ∧ (nmsQ s.1.2.2.2).Perm s.2.1 ∧ s.2.1.Nodup ∧ s.2.1.length ≤ s.2.2 ∧ s.2.2 ≤ l.length) (fun s => l.length - s.2.2) ((newH quan, 0, [], []), [], 0)
      ⟨newH_at quan, ok0 hqq, .refl _, .nil, Nat.le_refl _, Nat.zero_le _⟩ (.cons rfl (.cons rfl (.cons rfl (.cons rfl (.cons rfl (.cons rfl (.nil _))))))) rfl ?_
    rintro ⟨⟨σ, rv, es, ring⟩, ins, i⟩ ⟨h, hok, hp, hnd, hli, hi⟩
    simp only at h hok hp hnd hli hi
    by_cases hlt : i < l.length
    · have c1 : decide ((i : Int) < (((jobsA l).length : Nat) : Int)) = true := decide_eq_true (by omega)
      obtain ⟨j, hj⟩ : ∃ j, j = l[i] := ⟨_, rfl⟩
      have hjm : j ∈ l := by rw [hj]; exact List.getElem_mem hlt
      have hjx : (jobsA l)[(i : Int).toNat]? = some (jobA j) := by rw [Int.toNat_natCast, hj]; simp [jobsA, hlt]
      have hP := Put_ok σ 0 1 rv es quan ring j h hok.mn hok.len (hnl j hjm)
      refine pao [.b true, .v (jobA j), .v (jobA j)] rfl ?_ ?_
      · (repeat' with_reducible apply AllP_cons) <;> try exact aC
        · exact OpSpec.loadRA rfl rfl rfl rfl (lble rfl) rfl
      refine S_call rfl rfl rfl hP (fun v' σ' hv => ?_) (fun v' σ' hv => ?_)
      case _ =>
        obtain ⟨e1, rv', es', h2, hk2⟩ := hv
        cases e1
        by_cases hp0 : putE ring j = 0
        · rw [if_pos hp0] at h2
          have hnew := put_new hp0
          have hni : j.name ∉ ins := fun hm => hnew (hp.symm.subset hm)
          have c2 : (((putE ring j : Nat) : Int) == 0) = true := by rw [hp0]; rfl
          have hA := AddText_ok (fl := false) ins j.name (by omega)
          have hpp := addT_perm hni
          refine pao [.b true, .v (jobA j), .v (.str j.name), .v (.sl true false 1 (texts (addT ins j.name)))] rfl ?_ ?_
          · (repeat' with_reducible apply AllP_cons) <;> try exact aC
            · exact OpSpec.loadR rfl rfl rfl rfl rfl
            · exact ⟨_, hA, .cons (.refl (.sl (fun h => by cases h) (texts_any _))) (.cons (.refl .str) (.nil _))⟩
          refine S_round ((σ', rv', es', addJ ring j), addT ins j.name, i + 1) (by show l.length - (i + 1) < l.length - i; omega) ⟨h2, hok.add hp0, (nms_add j ring).trans ((hp.cons _).trans hpp.symm), (hpp.nodup_iff).2 (List.nodup_cons.2 ⟨hni, hnd⟩), ?_, hlt⟩ (.cons rfl (.cons rfl (.cons rfl (.cons rfl (.cons rfl (.cons ?_ (.nil _))))))) rfl
          · have := hpp.length_eq
            rw [List.length_cons] at this
            show (addT ins j.name).length ≤ i + 1; omega
          · show AV.int .i64 (IntKind.i64.wrap ((i : Int) + 1)) = .int .i64 ((i + 1 : Nat) : Int); exact ai64 rfl (by omega)
        · rw [if_neg hp0] at h2
          have c2 : (((putE ring j : Nat) : Int) == 0) = false := by
            have : ((putE ring j : Nat) : Int) ≠ 0 := by omega
            simpa using this
          refine pao [.b false] rfl ?_ ?_
          · (repeat' with_reducible apply AllP_cons) <;> try exact aC
          refine S_round ((σ', rv', es', ring), ins, i + 1) (by show l.length - (i + 1) < l.length - i; omega) ⟨h2, hok, hp, hnd, Nat.le_succ_of_le hli, hlt⟩ (.cons rfl (.cons rfl (.cons rfl (.cons rfl (.cons rfl (.cons ?_ (.nil _))))))) rfl
          · show AV.int .i64 (IntKind.i64.wrap ((i : Int) + 1)) = .int .i64 ((i + 1 : Nat) : Int); exact ai64 rfl (by omega)
      case _ =>
        obtain ⟨e1, _⟩ := hv
        cases e1
    · have c1 : decide ((i : Int) < (((jobsA l).length : Nat) : Int)) = false := decide_eq_false (by omega)
      have hil : ins.length ≤ 1048576 := by omega
      refine pao [.b false] rfl ?_ ?_
      · (repeat' with_reducible apply AllP_cons) <;> try exact aC
      refine S_while (α := (Heap × Nat × List QL × List QT) × List Nm × Nat) (fun s => [(2, .sl st fl 1 (texts drops)), (7, .ptr 0 0 0), (9, .sl true false 1 (texts ins)), (10, .sl true false 1 (texts s.2.1)), (12, .int .i64 (s.2.2 : Nat))]) (fun s => s.1.1)
        (fun s => QAt s.1.1 0 1 s.1.2.1 s.1.2.2.1 quan s.1.2.2.2 ∧ QOk quan s.1.2.2.2 ∧ (nmsQ s.1.2.2.2 ++ s.2.1).Perm ins ∧ s.2.2 ≤ drops.length) (fun s => drops.length - s.2.2) ((σ, rv, es, ring), [], 0)
        ⟨h, hok, by rw [List.append_nil]; exact hp, Nat.zero_le _⟩ (.cons rfl (.cons rfl (.cons rfl (.cons rfl (.cons rfl (.nil _)))))) rfl ?_
      clear hli hi c1 hlt h hok hp σ rv es ring i
      rintro ⟨⟨σ, rv, es, ring⟩, out, i⟩ ⟨h, hok, hp, hi⟩
      simp only at h hok hp hi
      have hol : out.length ≤ 1048576 := by have := hp.length_eq; rw [List.length_append] at this; omega
      have hnd2 := hp.nodup_iff.2 hnd
      obtain ⟨hn1, hn2, hn3⟩ := List.nodup_append.1 hnd2
      by_cases hlt : i < drops.length
      · have hi1 : AV.int .i64 (IntKind.i64.wrap ((i : Int) + 1)) = .int .i64 ((i + 1 : Nat) : Int) := ai64 rfl (by omega)
        have c1 : decide ((i : Int) < (((texts drops).length : Nat) : Int)) = true := decide_eq_true (by rw [texts_len]; omega)
        obtain ⟨d, hd⟩ : ∃ d, d = drops[i] := ⟨_, rfl⟩
        have hdx : (texts drops)[(i : Int).toNat]? = some (.str d) := by rw [Int.toNat_natCast, hd]; simp [texts, hlt]
        have hH1 := HasText_ok (st := true) (fl := false) ins d (by omega)
        have hH2 := HasText_ok (st := true) (fl := false) out d (by omega)
        have hD := Drop_ok σ 0 1 rv es quan ring d h hok
        have hfr : ∀ (s : Heap) (l : List Nm), Frzs s [.sl true false 1 (texts l), .str d] [.sl true false 1 (texts l), .str d] := fun s l => .cons (.refl (.sl (fun h => by cases h) (texts_any _))) (.cons (.refl .str) (.nil _))
        by_cases hdm : d ∈ nmsQ ring
        · have hdi : ins.contains d = true := by simpa using hp.subset (List.mem_append_left _ hdm)
          have hdo : out.contains d = false := by simpa using fun hm => hn3 d hdm d hm rfl
          rw [hdi] at hH1
          rw [hdo] at hH2
          rw [isSome_iff.2 hdm] at hD
          refine pao [.b true, .v (.str d), .v (.str d), .v (.bool true), .b true, .v (.str d), .v (.str d), .v (.bool false), .v (.str d), .v (.str d)] rfl ?_ ?_
          · (repeat' with_reducible apply AllP_cons) <;> try exact aC
            · exact OpSpec.loadR rfl rfl rfl rfl rfl
            · exact ⟨_, hH1, hfr _ _⟩
            · exact OpSpec.loadR rfl rfl rfl rfl rfl
            · exact ⟨_, hH2, hfr _ _⟩
            · exact OpSpec.loadR rfl rfl rfl rfl rfl
          refine S_call rfl rfl rfl hD (fun v' σ' hv => ?_) (fun v' σ' hv => ?_)
          case _ =>
            obtain ⟨e1, es', h2, hk2⟩ := hv
            cases e1
            have hA := AddText_ok (fl := false) out d (by omega)
            have hpp := addT_perm (l := out) (s := d) (by simpa using hdo)
            refine pao [.b false, .b true, .v (.str d), .v (.str d), .v (.sl true false 1 (texts (addT out d)))] rfl ?_ ?_
            · (repeat' with_reducible apply AllP_cons) <;> try exact aC
              · exact OpSpec.loadR rfl rfl rfl rfl rfl
              · exact ⟨_, hA, hfr _ _⟩
            refine S_round ((σ', rv, es', drpR ring d), addT out d, i + 1) (by show drops.length - (i + 1) < drops.length - i; omega) ⟨h2, hok.drop d, ?_, hlt⟩ (.cons rfl (.cons rfl (.cons rfl (.cons rfl (.cons hi1 (.nil _)))))) rfl
            refine List.Perm.trans ?_ hp
            refine (hpp.append_left _).trans ?_
            refine List.perm_middle.trans ?_
            rw [← List.cons_append]
            exact (nms_drop hdm).append_right _
          case _ =>
            obtain ⟨e1, _⟩ := hv
            cases e1
        · have hno : (fndQ ring d).isSome = false := by
            cases hb : (fndQ ring d).isSome with
            | false => rfl
            | true => exact absurd (isSome_iff.1 hb) hdm
          have hdr : drpR ring d = ring := by
            unfold drpR
            cases hq : fndQ ring d with
            | none => rfl
            | some p => rw [hq] at hno; cases hno
          rw [hno, hdr] at hD
          by_cases hdi : d ∈ ins
          · have hdo : d ∈ out := by
              rcases List.mem_append.1 (hp.symm.subset hdi) with h' | h'
              · exact absurd h' hdm
              · exact h'
            rw [show ins.contains d = true by simpa using hdi] at hH1
            rw [show out.contains d = true by simpa using hdo] at hH2
            refine pao [.b true, .v (.str d), .v (.str d), .v (.bool true), .b true, .v (.str d), .v (.str d), .v (.bool true), .v (.str d), .v (.str d)] rfl ?_ ?_
            · (repeat' with_reducible apply AllP_cons) <;> try exact aC
              · exact OpSpec.loadR rfl rfl rfl rfl rfl
              · exact ⟨_, hH1, hfr _ _⟩
              · exact OpSpec.loadR rfl rfl rfl rfl rfl
              · exact ⟨_, hH2, hfr _ _⟩
              · exact OpSpec.loadR rfl rfl rfl rfl rfl
            refine S_call rfl rfl rfl hD (fun v' σ' hv => ?_) (fun v' σ' hv => ?_)
            case _ =>
              obtain ⟨e1, es', h2, hk2⟩ := hv
              cases e1
              refine pao [.b false, .b false] rfl ?_ ?_
              · (repeat' with_reducible apply AllP_cons) <;> try exact aC
              exact S_round ((σ', rv, es', ring), out, i + 1) (by show drops.length - (i + 1) < drops.length - i; omega) ⟨h2, hok, hp, hlt⟩ (.cons rfl (.cons rfl (.cons rfl (.cons rfl (.cons hi1 (.nil _)))))) rfl
            case _ =>
              obtain ⟨e1, _⟩ := hv
              cases e1
          · rw [show ins.contains d = false by simpa using hdi] at hH1
            refine pao [.b true, .v (.str d), .v (.str d), .v (.bool false), .b false, .v (.str d), .v (.str d)] rfl ?_ ?_
            · (repeat' with_reducible apply AllP_cons) <;> try exact aC
              · exact OpSpec.loadR rfl rfl rfl rfl rfl
              · exact ⟨_, hH1, hfr _ _⟩
              · exact OpSpec.loadR rfl rfl rfl rfl rfl
            refine S_call rfl rfl rfl hD (fun v' σ' hv => ?_) (fun v' σ' hv => ?_)
            case _ =>
              obtain ⟨e1, es', h2, hk2⟩ := hv
              cases e1
              refine pao [.b false, .b false] rfl ?_ ?_
              · (repeat' with_reducible apply AllP_cons) <;> try exact aC
              exact S_round ((σ', rv, es', ring), out, i + 1) (by show drops.length - (i + 1) < drops.length - i; omega) ⟨h2, hok, hp, hlt⟩ (.cons rfl (.cons rfl (.cons rfl (.cons rfl (.cons hi1 (.nil _)))))) rfl
            case _ =>
              obtain ⟨e1, _⟩ := hv
              cases e1
      · have c1 : decide ((i : Int) < (((texts drops).length : Nat) : Int)) = false := decide_eq_false (by rw [texts_len]; omega)
        refine pao [.b false] rfl ?_ ?_
        · (repeat' with_reducible apply AllP_cons) <;> try exact aC
        clear hlt hi c1
        have hml : manyQ ring + out.length = ins.length := by have := hp.length_eq; rw [List.length_append, nmsQ_len] at this; exact this
        refine S_while (α := (Heap × Nat × List QL × List QT) × List Nm × Nat) (fun s => [(7, .ptr 0 0 0), (9, .sl true false 1 (texts ins)), (10, .sl true false 1 (texts s.2.1)), (14, .int .i64 (s.2.2 : Nat))]) (fun s => s.1.1)
          (fun s => QAt s.1.1 0 1 s.1.2.1 s.1.2.2.1 quan s.1.2.2.2 ∧ QOk quan s.1.2.2.2 ∧ (nmsQ s.1.2.2.2 ++ s.2.1).Perm ins ∧ s.2.2 ≤ ins.length ∧ manyQ s.1.2.2.2 + s.2.2 ≤ ins.length) (fun s => ins.length - s.2.2) ((σ, rv, es, ring), out, 0)
          ⟨h, hok, hp, Nat.zero_le _, by show manyQ ring + 0 ≤ _; omega⟩ (.cons rfl (.cons rfl (.cons rfl (.cons rfl (.nil _))))) rfl ?_
        clear hml hnd2 hn1 hn2 hn3 hol h hok hp σ rv es ring i out
        rintro ⟨⟨σ, rv, es, ring⟩, out, i⟩ ⟨h, hok, hp, hi, hml⟩
        simp only at h hok hp hi hml
        have hml2 : manyQ ring + out.length = ins.length := by have := hp.length_eq; rw [List.length_append, nmsQ_len] at this; exact this
        have hX := Next_ok σ 0 1 rv es quan ring h hok
        obtain ⟨z0, hz0⟩ : ∃ z0 : Nat × Option Box, z0 = (0, some (.cells [.int .i64 0, .str [], .int .i64 0] ⟨false, some 34⟩)) := ⟨_, rfl⟩
        have hal : ∀ {s : Heap} {fr : Fr} {o : Oper}, Alive s → o.op = .alloc 34 → OpSpec cx 130 fr s o (.ptr s.length 0 0) (s ++ [z0]) := fun hs ho => by rw [hz0]; exact OpSpec.allocE ho rfl rfl rfl hs
        have hfr : ∀ (s : Heap) (l : List Nm) (d : Nm), Frzs s [.sl true false 1 (texts l), .str d] [.sl true false 1 (texts l), .str d] := fun s l d => .cons (.refl (.sl (fun h => by cases h) (texts_any _))) (.cons (.refl .str) (.nil _))
        refine' S_shareO (ι := (Heap × Nat × List QL) × List Nm) (fun s => [(7, .ptr 0 0 0), (9, .sl true false 1 (texts ins)), (10, .sl true false 1 (texts s.2))]) (fun s => s.1.1)
          (fun s => QAt s.1.1 0 1 s.1.2.1 s.1.2.2 quan [] ∧ s.2.length = ins.length) ?main ?rest
        case main =>
          intro hsh
          by_cases hlt : i < ins.length
          · have c1 : decide ((i : Int) < (((texts ins).length : Nat) : Int)) = true := decide_eq_true (by rw [texts_len]; omega)
            refine pao [.b true] rfl ?_ ?_
            · (repeat' with_reducible apply AllP_cons) <;> try exact aC
            refine S_call rfl rfl rfl hX (fun v' σ' hv => ?_) (fun v' σ' hv => ?_)
            case _ =>
              obtain ⟨e1, rv', es', h4, hk4⟩ := hv
              cases e1
              rcases nxt_spec (quan := quan) (mQ ring + 1) ring hok (Nat.lt_succ_self _) with ⟨hr, hn⟩ | ⟨j, r', hn, hpp, hok'⟩
              · have hn : nxtQ quan ring = _ := hn
                rw [hn] at h4
                rw [hn]
                refine pao [.f (.ptr σ'.length 0 0) (fun s => s ++ [z0]), .f (.tup []) (fun _ => σ' ++ [z0]), .b true, .s] rfl ?_ ?_
                · (repeat' with_reducible apply AllP_cons) <;> try exact aC
                  · exact hal h4.al rfl
                  · exact OpSpec.storeP (id := σ'.length) (gT := some 34) (cs := [.int .i64 0, .str [], .int .i64 0]) (y := jobA job0) rfl rfl rfl rfl rfl rfl (by rw [app_last, hz0]) (lble rfl) (by rw [List.set_append_right _ _ (Nat.le_refl _), Nat.sub_self, hz0]; rfl)
                refine hsh ((σ' ++ [z0], rv', es'), out) _ ⟨by rw [hz0]; exact h4.app _ _, ?_⟩ (.cons rfl (.cons rfl (.cons rfl (.nil _))))
                rw [hr] at hml2
                show out.length = ins.length
                rw [← hml2]; exact (Nat.zero_add _).symm
              · have hn : nxtQ quan ring = _ := hn
                rw [hn] at h4
                rw [hn]
                obtain ⟨zj, hzj⟩ : ∃ zj : Nat × Option Box, zj = (0, some (.cells j.cells ⟨false, some 34⟩)) := ⟨_, rfl⟩
                have hjr : j.name ∈ nmsQ ring := hpp.subset (List.mem_cons_self ..)
                have hnd2 := hp.nodup_iff.2 hnd
                obtain ⟨hn1, hn2, hn3⟩ := List.nodup_append.1 hnd2
                have hjo : j.name ∉ out := fun hm => hn3 _ hjr _ hm rfl
                have hH1 := HasText_ok (st := true) (fl := false) ins j.name (by omega)
                have hH2 := HasText_ok (st := true) (fl := false) out j.name (by omega)
                rw [show ins.contains j.name = true by simpa using hp.subset (List.mem_append_left _ hjr)] at hH1
                rw [show out.contains j.name = false by simpa using hjo] at hH2
                have hA := AddText_ok (fl := false) out j.name (by omega)
                have hpa := addT_perm hjo
                have hld : ∀ {fr : Fr} {o : Oper} {a : Operand}, o.op = .load 9 a → ev cx fr a = .ptr σ'.length 0 1 → OpSpec cx 130 fr (σ' ++ [zj]) o (.str j.name) (σ' ++ [zj]) := fun ho he => OpSpec.loadP ho rfl rfl he (by rw [app_last, hzj]) rfl
                refine pao [.f (.ptr σ'.length 0 0) (fun s => s ++ [z0]), .f (.tup []) (fun _ => σ' ++ [zj]), .b false, .v (.str j.name), .v (.bool true), .b false, .v (.str j.name), .v (.bool false), .b false, .v (.str j.name), .v (.sl true false 1 (texts (addT out j.name)))] rfl ?_ ?_
                · (repeat' with_reducible apply AllP_cons) <;> try exact aC
                  · exact hal h4.al rfl
                  · exact OpSpec.storeP (id := σ'.length) (gT := some 34) (cs := [.int .i64 0, .str [], .int .i64 0]) (y := jobA j) rfl rfl rfl rfl rfl rfl (by rw [app_last, hz0]) (lble rfl) (by rw [List.set_append_right _ _ (Nat.le_refl _), Nat.sub_self, hzj]; rfl)
                  · exact hld rfl rfl
                  · exact ⟨_, hH1, hfr _ _ _⟩
                  · exact hld rfl rfl
                  · exact ⟨_, hH2, hfr _ _ _⟩
                  · exact hld rfl rfl
                  · exact ⟨_, hA, hfr _ _ _⟩
                have hl1 := hpp.length_eq
                rw [List.length_cons, nmsQ_len, nmsQ_len] at hl1
                refine S_round ((σ' ++ [zj], rv', es', r'), addT out j.name, i + 1) (by show ins.length - (i + 1) < ins.length - i; omega) ⟨by rw [hzj]; exact h4.app _ _, hok', ?_, hlt, by show manyQ r' + (i + 1) ≤ ins.length; omega⟩ (.cons rfl (.cons rfl (.cons rfl (.cons ?_ (.nil _))))) rfl
                · refine List.Perm.trans ?_ hp
                  refine (hpa.append_left _).trans ?_
                  refine List.perm_middle.trans ?_
                  rw [← List.cons_append]
                  exact hpp.append_right _
                · show AV.int .i64 (IntKind.i64.wrap ((i : Int) + 1)) = .int .i64 ((i + 1 : Nat) : Int); exact ai64 rfl (by omega)
            case _ =>
              obtain ⟨e1, _⟩ := hv
              cases e1
          · have c1 : decide ((i : Int) < (((texts ins).length : Nat) : Int)) = false := decide_eq_false (by rw [texts_len]; omega)
            refine pao [.b false, .s] rfl ?_ ?_
            · (repeat' with_reducible apply AllP_cons) <;> try exact aC
            have hr : ring = [] := by
              cases ring with
              | nil => rfl
              | cons t r =>
                have := List.length_pos_iff.2 (hok.ne t (List.mem_cons_self ..))
                have hm : manyQ (t :: r) = t.jobs.length + manyQ r := rfl
                omega
            subst hr
            refine hsh ((σ, rv, es), out) _ ⟨h, ?_⟩ (.cons rfl (.cons rfl (.cons rfl (.nil _))))
            show out.length = ins.length
            rw [← hml2]; exact (Nat.zero_add _).symm
        case rest =>
          rintro ⟨⟨σ, rv, es⟩, out⟩ ⟨h, hl⟩
          simp only at h hl
          have hX := Next_ok σ 0 1 rv es quan [] h (ok0 hqq)
          rw [show nxtQ quan [] = (none, []) from rfl] at hX
          refine pao [] rfl ?_ ?_
          · (repeat' with_reducible apply AllP_cons) <;> try exact aC
          refine S_call rfl rfl rfl hX (fun v' σ' hv => ?_) (fun v' σ' hv => ?_)
          case _ =>
            obtain ⟨e1, rv', es', h4, hk4⟩ := hv
            cases e1
            have c2 : ((((texts out).length : Nat) : Int) == (((texts ins).length : Nat) : Int)) = true := by rw [texts_len, texts_len, hl]; simp
            refine pao [.f (.ptr σ'.length 0 0) (fun s => s ++ [z0]), .f (.tup []) (fun _ => σ' ++ [z0]), .b true] rfl ?_ ?_
            · (repeat' with_reducible apply AllP_cons) <;> try exact aC
              · exact hal h4.al rfl
              · exact OpSpec.storeP (id := σ'.length) (gT := some 34) (cs := [.int .i64 0, .str [], .int .i64 0]) (y := jobA job0) rfl rfl rfl rfl rfl rfl (by rw [app_last, hz0]) (lble rfl) (by rw [List.set_append_right _ _ (Nat.le_refl _), Nat.sub_self, hz0]; rfl)
            refine S_retc .bool rfl trivial ?_
            show AV.bool ((((texts out).length : Nat) : Int) == (((texts ins).length : Nat) : Int)) = _
            rw [c2]
          case _ =>
            obtain ⟨e1, _⟩ := hv
            cases e1
end Go.Proofs.Ytjaflkgfipaajaa
end
