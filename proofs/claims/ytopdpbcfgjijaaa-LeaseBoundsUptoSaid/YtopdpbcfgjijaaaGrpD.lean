/-
  Texts of our own, in one file.
-/
import Derived.Test.YtopdpbcfgjijaaaGrpC
import Derived.WalkKit
import Derived.Lib.Walk
import Derived.StillTailTactics
import Derived.Sort.Grow
import Derived.Shelf.SlSortCmp.InsertionK
import Derived.Shelf.SlSortCmp.WholeK
import Derived.WideShapes
section
set_option linter.unusedVariables false
set_option linter.unusedSimpArgs false
set_option maxRecDepth 20000
set_option maxHeartbeats 4000000
namespace Go.Proofs.Ytopdpbcfgjijaaa
open Go Go.Ab
def hasW (l : List (Int × Int)) (w : Int) : Option Nat := l.findIdx? fun p => p.1 == w
def lookW (l : List (Int × Int)) (w : Int) : AV := match hasW l w with
  | some j => .tup [.int .i64 (l.getD j (0, 0)).2, .bool true]
  | none => .tup [.int .i64 0, .bool false]
def codeS (r : Int × Int × List JE) : Int := r.1
def nowS (r : Int × Int × List JE) : Int := r.2.1
def esS (r : Int × Int × List JE) : List JE := r.2.2
def grE (t : TM) (n w : Int) (e : JE) : JE := { e with st := 2, tried := e.tried + 1, till := e.till ++ [(w, n + t.last)] }
def grC (t : TM) (w : Int) (e : JE) : Int := if e.st = 3 ∨ e.st = 4 then 4 else if (hasW e.till w).isSome = true then 6 else if (e.till.length : Int) = t.twins ∨ e.tried = t.tries then 2 else 0
def grantS (t : TM) (now n w : Int) (s : Nm) (es : List JE) : Int × Int × List JE :=
  if errT n now [w] = 0 then
    match atL (es.map (tickE t.tries n)) s with
    | none => (5, n, es.map (tickE t.tries n))
    | some i => match (es.map (tickE t.tries n))[i]? with
      | none => (5, n, es.map (tickE t.tries n))
      | some e => if grC t w e = 0 then (0, n, (es.map (tickE t.tries n)).set i (grE t n w e)) else (grC t w e, n, es.map (tickE t.tries n))
  else (errT n now [w], now, es)
structure BdOk (t : TM) (es : List JE) : Prop where
  l1 : 1 ≤ t.last
  l2 : t.last ≤ 1000000000
  el : es.length ≤ 1000
  tr : ∀ e ∈ es, 0 ≤ e.tried ∧ e.tried ≤ 1000
  tl : TilOk es
theorem own_map {q mid : Nat} {es : List JE} (f : JE → JE) (hf : ∀ e, (f e).jid = e.jid ∧ (f e).tid = e.tid) : OwnL q mid (es.map f) = OwnL q mid es := by
  funext id
  unfold OwnL idsL idsJ
  rw [List.flatMap_map]
  have : (fun a => [(f a).jid, (f a).tid]) = fun e : JE => [e.jid, e.tid] := by
    funext a; rw [(hf a).1, (hf a).2]
  rw [this]
theorem errT_n {n now : Int} {ws : List Int} (h : errT n now ws = 0) : 0 ≤ n ∧ n ≤ 1000000000 ∧ now ≤ n := by
  unfold errT at h
  by_cases h1 : ws.any wrkB = true
  · rw [if_pos h1] at h; cases h
  rw [if_neg h1] at h
  by_cases h2 : witB n 0 1000000000 = false
  · rw [if_pos h2] at h; cases h
  rw [if_neg h2] at h
  by_cases h3 : n < now
  · rw [if_pos h3] at h; cases h
  have h2 : witB n 0 1000000000 = true := by simpa using h2
  unfold witB at h2
  rw [Bool.and_eq_true] at h2
  have h4 := of_decide_eq_true h2.1
  have h5 := of_decide_eq_true h2.2
  exact ⟨h4, h5, by omega⟩
theorem lookW_spec {cx : Cx} {n : Nat} {fr : Fr} {σ : Heap} {o : Oper} {m key : Operand} {tid : Nat} {l : List (Int × Int)} {w : Int} {st : MS} (ho : o.op = .lookup 63 m key true) (ht : cx.P.underlying 63 = some (.map 3 3)) (hk : keyFits cx.P 3 (.int .i64 w) = true) (hz : zeroV cx.P 3 = some (.int .i64 0))
    (hm : ev cx fr m = .map tid 0) (hw : ev cx fr key = .int .i64 w) (hσ : σ[tid]? = some (0, some (.map (tilK l) st))) : OpSpec cx n fr σ o (lookW l w) σ := by
  refine OpSpec.lookG (a := .int .i64 w) (hitI l w) ho ht hw hk hm hσ (findI0 l w) hz ?_
  unfold hitI lookW hasW
  cases l.findIdx? fun p => p.1 == w with
  | none => rfl
  | some j => rfl
theorem LAt.job1 {σ : Heap} {q mid : Nat} {ms : MS} {t : TM} {now : Int} {es : List JE} (h : LAt σ q mid ms t now es) {i : Nat} (hi : i < es.length) (e : JE) (h1 : e.jid = es[i].jid) (h2 : e.tid = es[i].tid) (h3 : e.name = es[i].name) :
    LAt ((σ.set es[i].jid (0, some (jobB e))).set es[i].tid (0, some (.map (tilK e.till) none))) q mid ms t now (es.set i e) := by
  have hm := List.getElem_mem hi
  have ap := h.ap hm
  refine h.job hi e h1 h2 h3 (Alive.set (Alive.set h.al _ _ _) _ _ _) ?_ (set_eq (y := (0, some (.map (tilK es[i].till) none))) (by rw [set_ne ap.jt.symm]; exact h.tb _ hm)) fun id _ k1 k2 => by rw [set_ne k2, set_ne k1]
  rw [set_ne ap.jt]; exact set_eq (h.jb _ hm)
theorem Grant_ok (σ : Heap) (q mid : Nat) (t : TM) (now n w : Int) (es : List JE) (name : Nm) (h : LAt σ q mid none t now es) (hb : BdOk t es) :
    CallOk cx 12 [.ptr q 0 0, .str name, .int .i64 w, .int .i64 n] σ (fun o s => o = .ret (.int .i64 (codeS (grantS t now n w name es))) ∧ LAt s q mid none t (nowS (grantS t now n w name es)) (esS (grantS t now n w name es)) ∧ QKeep σ s (OwnL q mid es) (OwnL q mid es)) :=
  callOk_intro (fun a w => Try.call12 a w) Try.func12 rfl Try.ntmps12 rfl fun B => by
    by_cases he : errT n now [w] = 0
    · have hT := time_ok σ q mid t now n es (.sl true true 1 (intsA [w])) [w] h hb.tl (.inr ⟨_, _, rfl⟩) (by simp) hb.el he
      obtain ⟨hn0, hn1, _⟩ := errT_n he
      refine pao [] rfl ?_ ?_
      · (repeat' with_reducible apply AllP_cons) <;> try exact aC
      refine S_call rfl rfl rfl hT (fun v s hR => ?_) (fun v s hR => by obtain ⟨w, wv, hR, _⟩ := hR; cases hR)
      obtain ⟨ow, wv, hR, _, _, hL, hK⟩ := hR
      cases hR
      unfold grantS
      rw [if_pos he]
      obtain ⟨T, hTd⟩ : ∃ T, T = es.map (tickE t.tries n) := ⟨_, rfl⟩
      have hown : OwnL q mid T = OwnL q mid es := by rw [hTd]; exact own_map _ fun e => ⟨(tickE_jid _ _ e).1, (tickE_jid _ _ e).2.1⟩
      have htr : ∀ e ∈ T, 0 ≤ e.tried ∧ e.tried ≤ 1000 := fun e hm => by
        rw [hTd] at hm
        obtain ⟨x, hx, rfl⟩ := List.mem_map.1 hm
        rw [(tickE_jid _ _ x).2.2.2.2]; exact hb.tr x hx
      rw [← hTd] at hL ⊢
      cases ha : atL T name with
      | none =>
        refine pao [.b false, .v (.map mid 0), .v (.tup [.nilp, .bool false]), .b true] rfl ?_ ?_
        · (repeat' with_reducible apply AllP_cons) <;> try exact aC
          · exact OpSpec.loadP rfl rfl rfl rfl hL.qb rfl
          · exact OpSpec.lookG (a := .str name) none rfl rfl rfl rfl rfl hL.mb (by rw [findE0, hitE_none ha]) rfl rfl
        exact S_ret ⟨_, _, rfl, trivial, rfl, hL, hK⟩
      | some i =>
        obtain ⟨hi, hn⟩ := atL_some ha
        have hge : T[i]? = some T[i] := List.getElem?_eq_getElem hi
        simp only [hge]
        have hm := List.getElem_mem hi
        obtain ⟨e, hee⟩ : ∃ e, e = T[i] := ⟨_, rfl⟩
        rw [← hee] at hm ⊢
        have hj := hL.jb e hm
        have ht := hL.tb e hm
        have ap := hL.ap hm
        have htl : (tilK e.till).length = e.till.length := by simp [tilK]
        by_cases c3 : e.st = 3
        · have c3' : (e.st == 3) = true := by simp [c3]
          refine pao [.b false, .v (.map mid 0), .v (.tup [.ptr e.jid 0 0, .bool true]), .b false, .v (.int .i64 e.st), .b true, .b true] rfl ?_ ?_
          · (repeat' with_reducible apply AllP_cons) <;> try exact aC
            · exact OpSpec.loadP rfl rfl rfl rfl hL.qb rfl
            · exact OpSpec.lookG (a := .str name) (z := .nilp) (some (i, .ptr e.jid 0 0)) rfl rfl rfl rfl rfl hL.mb (by rw [findE0, hitE_some ha hi, hee]) rfl rfl
            · exact OpSpec.loadP rfl rfl rfl rfl hj rfl
          have hg : grC t w e = 4 := by unfold grC; rw [if_pos (.inl c3)]
          rw [hg]
          exact S_ret ⟨_, _, rfl, trivial, rfl, hL, hK⟩
        have c3' : (e.st == 3) = false := by simp [c3]
        by_cases c4 : e.st = 4
        · have c4' : (e.st == 4) = true := by simp [c4]
          refine pao [.b false, .v (.map mid 0), .v (.tup [.ptr e.jid 0 0, .bool true]), .b false, .v (.int .i64 e.st), .b false, .v (.int .i64 e.st), .b true] rfl ?_ ?_
          · (repeat' with_reducible apply AllP_cons) <;> try exact aC
            · exact OpSpec.loadP rfl rfl rfl rfl hL.qb rfl
            · exact OpSpec.lookG (a := .str name) (z := .nilp) (some (i, .ptr e.jid 0 0)) rfl rfl rfl rfl rfl hL.mb (by rw [findE0, hitE_some ha hi, hee]) rfl rfl
            · exact OpSpec.loadP rfl rfl rfl rfl hj rfl
            · exact OpSpec.loadP rfl rfl rfl rfl hj rfl
          have hg : grC t w e = 4 := by unfold grC; rw [if_pos (.inr c4)]
          rw [hg]
          exact S_ret ⟨_, _, rfl, trivial, rfl, hL, hK⟩
        have c4' : (e.st == 4) = false := by simp [c4]
        cases hh : hasW e.till w with
        | some j =>
          have hlk : lookW e.till w = .tup [.int .i64 (e.till.getD j (0, 0)).2, .bool true] := by unfold lookW; rw [hh]
          refine pao [.b false, .v (.map mid 0), .v (.tup [.ptr e.jid 0 0, .bool true]), .b false, .v (.int .i64 e.st), .b false, .v (.int .i64 e.st), .b false, .v (.map e.tid 0), .v (.tup [.int .i64 (e.till.getD j (0, 0)).2, .bool true]), .b true] rfl ?_ ?_
          · (repeat' with_reducible apply AllP_cons) <;> try exact aC
            · exact OpSpec.loadP rfl rfl rfl rfl hL.qb rfl
            · exact OpSpec.lookG (a := .str name) (z := .nilp) (some (i, .ptr e.jid 0 0)) rfl rfl rfl rfl rfl hL.mb (by rw [findE0, hitE_some ha hi, hee]) rfl rfl
            · exact OpSpec.loadP rfl rfl rfl rfl hj rfl
            · exact OpSpec.loadP rfl rfl rfl rfl hj rfl
            · exact OpSpec.loadP rfl rfl rfl rfl hj rfl
            · rw [← hlk]; exact lookW_spec rfl rfl rfl rfl rfl rfl ht
          have hg : grC t w e = 6 := by unfold grC; rw [if_neg (by simp [c3, c4]), if_pos (by rw [hh]; rfl)]
          rw [hg]
          exact S_ret ⟨_, _, rfl, trivial, rfl, hL, hK⟩
        | none =>
          have hlk : lookW e.till w = .tup [.int .i64 0, .bool false] := by unfold lookW; rw [hh]
          refine pao [.b false, .v (.map mid 0), .v (.tup [.ptr e.jid 0 0, .bool true]), .b false, .v (.int .i64 e.st), .b false, .v (.int .i64 e.st), .b false, .v (.map e.tid 0), .v (.tup [.int .i64 0, .bool false]), .b false] rfl ?_ ?_
          · (repeat' with_reducible apply AllP_cons) <;> try exact aC
            · exact OpSpec.loadP rfl rfl rfl rfl hL.qb rfl
            · exact OpSpec.lookG (a := .str name) (z := .nilp) (some (i, .ptr e.jid 0 0)) rfl rfl rfl rfl rfl hL.mb (by rw [findE0, hitE_some ha hi, hee]) rfl rfl
            · exact OpSpec.loadP rfl rfl rfl rfl hj rfl
            · exact OpSpec.loadP rfl rfl rfl rfl hj rfl
            · exact OpSpec.loadP rfl rfl rfl rfl hj rfl
            · rw [← hlk]; exact lookW_spec rfl rfl rfl rfl rfl rfl ht
          by_cases c5 : (e.till.length : Int) = t.twins
          · have c5' : ((((tilK e.till).length : Nat) : Int) == t.twins) = true := by rw [htl]; simp [c5]
            refine S_drawO 23 [.map e.tid 0, .int .i64 (tilK e.till).length, .int .i64 t.twins, .bool true] rfl rfl rfl rfl ?_ ?_
            · (repeat' with_reducible apply AllP_cons) <;> try exact aC
              · exact OpSpec.loadP rfl rfl rfl rfl hj rfl
              · exact OpSpec.lenG rfl rfl rfl ht
              · exact OpSpec.loadP rfl rfl rfl rfl hL.qb rfl
            refine pao [.b true] rfl ?_ ?_
            · (repeat' with_reducible apply AllP_cons) <;> try exact aC
            have hg : grC t w e = 2 := by unfold grC; rw [if_neg (by simp [c3, c4]), if_neg (by rw [hh]; simp), if_pos (.inl c5)]
            rw [hg]
            exact S_ret ⟨_, _, rfl, trivial, rfl, hL, hK⟩
          have c5' : ((((tilK e.till).length : Nat) : Int) == t.twins) = false := by rw [htl]; simp [c5]
          refine S_drawO 23 [.map e.tid 0, .int .i64 (tilK e.till).length, .int .i64 t.twins, .bool false, .int .i64 e.tried, .int .i64 t.tries] rfl rfl rfl rfl ?_ ?_
          · (repeat' with_reducible apply AllP_cons) <;> try exact aC
            · exact OpSpec.loadP rfl rfl rfl rfl hj rfl
            · exact OpSpec.lenG rfl rfl rfl ht
            · exact OpSpec.loadP rfl rfl rfl rfl hL.qb rfl
            · exact OpSpec.loadP rfl rfl rfl rfl hj rfl
            · exact OpSpec.loadP rfl rfl rfl rfl hL.qb rfl
          by_cases c6 : e.tried = t.tries
          · have c6' : (e.tried == t.tries) = true := by simp [c6]
            refine pao [.b true] rfl ?_ ?_
            · (repeat' with_reducible apply AllP_cons) <;> try exact aC
            have hg : grC t w e = 2 := by unfold grC; rw [if_neg (by simp [c3, c4]), if_neg (by rw [hh]; simp), if_pos (.inr c6)]
            rw [hg]
            exact S_ret ⟨_, _, rfl, trivial, rfl, hL, hK⟩
          have c6' : (e.tried == t.tries) = false := by simp [c6]
          have hg : grC t w e = 0 := by unfold grC; rw [if_neg (by simp [c3, c4]), if_neg (by rw [hh]; simp), if_neg (by simp [c5, c6])]
          obtain ⟨ht0, ht1⟩ := htr e hm
          obtain ⟨J1, hJ1⟩ : ∃ J1 : Nat × Option Box, J1 = (0, some (jobB { e with st := 2 })) := ⟨_, rfl⟩
          obtain ⟨J2, hJ2⟩ : ∃ J2 : Nat × Option Box, J2 = (0, some (jobB (grE t n w e))) := ⟨_, rfl⟩
          obtain ⟨T2, hT2⟩ : ∃ T2 : Nat × Option Box, T2 = (0, some (.map (tilK (grE t n w e).till) none)) := ⟨_, rfl⟩
          have hj1 : (s.set e.jid J1)[e.jid]? = some (0, some (jobB { e with st := 2 })) := by rw [set_eq hj, hJ1]
          refine pao [.b false, .f (.tup []) (fun s => s.set e.jid J1), .v (.int .i64 e.tried), .f (.tup []) (fun s => s.set e.jid J2)] rfl ?_ ?_
          · (repeat' with_reducible apply AllP_cons) <;> try exact aC
            · exact OpSpec.storeP (id := e.jid) (gT := some 65) (cs := [.int .i64 e.st, .int .i64 e.tried, .map e.tid 0]) rfl rfl rfl rfl rfl rfl hj (lble rfl) (by rw [hJ1]; rfl)
            · exact OpSpec.loadP rfl rfl rfl rfl hj1 rfl
            · refine OpSpec.storeP (id := e.jid) (gT := some 65) (cs := [.int .i64 2, .int .i64 e.tried, .map e.tid 0]) rfl rfl rfl rfl rfl rfl hj1 (lble rfl) ?_
              have hw1 : IntKind.i64.wrap (e.tried + 1) = e.tried + 1 := IntWalk.i64_in _ ⟨by omega, by omega⟩
              have hjb : J2 = (0, some (Box.cells [.int .i64 2, .int .i64 (IntKind.i64.wrap (e.tried + 1)), .map e.tid 0] ⟨false, some 65⟩)) := by rw [hJ2, hw1]; rfl
              rw [hjb]; rfl
          refine S_heap (s.set e.jid J2) (by show (s.set e.jid J1).set e.jid J2 = _; rw [List.set_set]) ?_
          have hj2 : (s.set e.jid J2)[e.jid]? = some (0, some (jobB (grE t n w e))) := by rw [set_eq hj, hJ2]
          have hq2 : (s.set e.jid J2)[q]? = some (0, some (bookB t n mid)) := by rw [set_ne ap.jq.symm]; exact hL.qb
          have ht2 : (s.set e.jid J2)[e.tid]? = some (0, some (.map (tilK e.till) none)) := by rw [set_ne ap.jt.symm]; exact ht
          refine S_drawO 12 [.map e.tid 0, .int .i64 t.last] rfl rfl rfl rfl ?_ ?_
          · (repeat' with_reducible apply AllP_cons) <;> try exact aC
            · exact OpSpec.loadP rfl rfl rfl rfl hj2 rfl
            · exact OpSpec.loadP rfl rfl rfl rfl hq2 rfl
          refine pao [.f (.tup []) (fun s => s.set e.tid T2)] rfl ?_ ?_
          · (repeat' with_reducible apply AllP_cons) <;> try exact aC
            · refine OpSpec.putG (a := .int .i64 w) (v := .int .i64 (n + t.last)) (hitI e.till w) rfl rfl rfl rfl rfl ?_ ht2 (by rw [findI0]) ?_
              · show AV.int .i64 (IntKind.i64.wrap (n + t.last)) = _
                exact ai64i rfl ⟨by have := hb.l1; omega, by have := hb.l2; omega⟩
              · have hhi : hitI e.till w = none := by unfold hitI; unfold hasW at hh; rw [hh]; rfl
                rw [hhi, hT2]
                show List.set _ _ (0, some (Box.map (tilK e.till ++ [(.int .i64 w, .int .i64 (n + t.last))]) none)) = _
                have : tilK e.till ++ [(AV.int .i64 w, AV.int .i64 (n + t.last))] = tilK (grE t n w e).till := by unfold tilK grE; rw [List.map_append]; rfl
                rw [this]
          rw [if_pos hg]
          refine S_ret ⟨_, _, rfl, trivial, rfl, ?_, ?_⟩
          · have := hL.job1 hi (grE t n w e) (by rw [← hee]; rfl) (by rw [← hee]; rfl) (by rw [← hee]; rfl)
            rw [← hee] at this
            show LAt ((s.set e.jid J2).set e.tid T2) q mid none t n (T.set i (grE t n w e))
            rw [hJ2, hT2]; exact this
          · exact (hK.setO (by rw [← hown]; exact own_j hm) _).setO (by rw [← hown]; exact own_t hm) _
    · have hT := time_bad σ q mid t now n es (.sl true true 1 (intsA [w])) [w] h (.inr ⟨_, _, rfl⟩) (by simp) he
      unfold grantS
      rw [if_neg he]
      have c1 : (errT n now [w] != 0) = true := by simp [he]
      refine pao [.k (.tup [.nils, .int .i64 (errT n now [w])]), .b true] rfl ?_ ?_
      · (repeat' with_reducible apply AllP_cons) <;> try exact aC
      exact S_ret ⟨_, _, rfl, trivial, rfl, h, QKeep.refl⟩
end Go.Proofs.Ytopdpbcfgjijaaa
end
section
set_option linter.unusedVariables false
set_option linter.unusedSimpArgs false
set_option maxRecDepth 20000
set_option maxHeartbeats 4000000
namespace Go.Proofs.Ytopdpbcfgjijaaa
open Go Go.Ab
def fndL (T : List JE) (s : Nm) (w : Int) : Option Nat := match atL T s with
  | none => none
  | some i => match T[i]? with
    | none => none
    | some e => match hasW e.till w with
      | none => none
      | some _ => some i
def ptrL (T : List JE) : Option Nat → AV
  | none => .tup [.nilp, .int .i64 5]
  | some i => match T[i]? with
    | none => .tup [.nilp, .int .i64 5]
    | some e => .tup [.ptr e.jid 0 0, .int .i64 0]
theorem fndL_some {T : List JE} {s : Nm} {w : Int} {i : Nat} (h : fndL T s w = some i) : ∃ hi : i < T.length, ∃ j, hasW T[i].till w = some j ∧ atL T s = some i := by
  unfold fndL at h
  cases ha : atL T s with
  | none => rw [ha] at h; cases h
  | some k =>
    obtain ⟨hk, _⟩ := atL_some ha
    rw [ha] at h
    simp only [List.getElem?_eq_getElem hk] at h
    cases hh : hasW T[k].till w with
    | none => rw [hh] at h; cases h
    | some j => rw [hh] at h; cases h; exact ⟨hk, j, hh, rfl⟩
theorem held_bad (σ : Heap) (q mid : Nat) (t : TM) (now n w : Int) (es : List JE) (name : Nm) (h : LAt σ q mid none t now es) (he : errT n now [w] ≠ 0) :
    CallOk cx 32 [.ptr q 0 0, .str name, .int .i64 w, .int .i64 n] σ (fun o s => o = .ret (.tup [.nilp, .int .i64 (errT n now [w])]) ∧ s = σ) :=
  callOk_intro (fun a w => Try.call32 a w) Try.func32 rfl Try.ntmps32 rfl fun B => by
    have hT := time_bad σ q mid t now n es (.sl true true 1 (intsA [w])) [w] h (.inr ⟨_, _, rfl⟩) (by simp) he
    have c1 : (errT n now [w] != 0) = true := by simp [he]
    refine pao [.k (.tup [.nils, .int .i64 (errT n now [w])]), .b true] rfl ?_ ?_
    · (repeat' with_reducible apply AllP_cons) <;> try exact aC
    exact S_ret ⟨_, _, rfl, trivial, rfl, rfl⟩
theorem held_ok (σ : Heap) (q mid : Nat) (t : TM) (now n w : Int) (es : List JE) (name : Nm) (h : LAt σ q mid none t now es) (hb : BdOk t es) (he : errT n now [w] = 0) :
    CallOk cx 32 [.ptr q 0 0, .str name, .int .i64 w, .int .i64 n] σ (fun o s => o = .ret (ptrL (es.map (tickE t.tries n)) (fndL (es.map (tickE t.tries n)) name w)) ∧ LAt s q mid none t n (es.map (tickE t.tries n)) ∧ QKeep σ s (OwnL q mid es) (OwnL q mid es)) :=
  callOk_intro (fun a w => Try.call32 a w) Try.func32 rfl Try.ntmps32 rfl fun B => by
    have hT := time_ok σ q mid t now n es (.sl true true 1 (intsA [w])) [w] h hb.tl (.inr ⟨_, _, rfl⟩) (by simp) hb.el he
    refine pao [] rfl ?_ ?_
    · (repeat' with_reducible apply AllP_cons) <;> try exact aC
    refine S_call rfl rfl rfl hT (fun v s hR => ?_) (fun v s hR => by obtain ⟨w, wv, hR, _⟩ := hR; cases hR)
    obtain ⟨ow, wv, hR, _, _, hL, hK⟩ := hR
    cases hR
    generalize es.map (tickE t.tries n) = T at *
    cases ha : atL T name with
    | none =>
      have hf : fndL T name w = none := by unfold fndL; rw [ha]
      rw [hf]
      refine pao [.b false, .v (.map mid 0), .v (.tup [.nilp, .bool false]), .b true] rfl ?_ ?_
      · (repeat' with_reducible apply AllP_cons) <;> try exact aC
        · exact OpSpec.loadP rfl rfl rfl rfl hL.qb rfl
        · exact OpSpec.lookG (a := .str name) none rfl rfl rfl rfl rfl hL.mb (by rw [findE0, hitE_none ha]) rfl rfl
      exact S_ret ⟨_, _, rfl, trivial, rfl, hL, hK⟩
    | some i =>
      obtain ⟨hi, hn⟩ := atL_some ha
      have hge : T[i]? = some T[i] := List.getElem?_eq_getElem hi
      have hm := List.getElem_mem hi
      have hj := hL.jb _ hm
      have ht := hL.tb _ hm
      cases hh : hasW T[i].till w with
      | none =>
        have hlk : lookW T[i].till w = .tup [.int .i64 0, .bool false] := by unfold lookW; rw [hh]
        have hf : fndL T name w = none := by unfold fndL; rw [ha]; simp only [hge, hh]
        rw [hf]
        refine pao [.b false, .v (.map mid 0), .v (.tup [.ptr T[i].jid 0 0, .bool true]), .b false, .v (.map T[i].tid 0), .v (.tup [.int .i64 0, .bool false]), .b true] rfl ?_ ?_
        · (repeat' with_reducible apply AllP_cons) <;> try exact aC
          · exact OpSpec.loadP rfl rfl rfl rfl hL.qb rfl
          · exact OpSpec.lookG (a := .str name) (z := .nilp) (some (i, .ptr T[i].jid 0 0)) rfl rfl rfl rfl rfl hL.mb (by rw [findE0, hitE_some ha hi]) rfl rfl
          · exact OpSpec.loadP rfl rfl rfl rfl hj rfl
          · rw [← hlk]; exact lookW_spec rfl rfl rfl rfl rfl rfl ht
        exact S_ret ⟨_, _, rfl, trivial, rfl, hL, hK⟩
      | some j =>
        have hlk : lookW T[i].till w = .tup [.int .i64 (T[i].till.getD j (0, 0)).2, .bool true] := by unfold lookW; rw [hh]
        have hf : fndL T name w = some i := by unfold fndL; rw [ha]; simp only [hge, hh]
        have hp : ptrL T (some i) = .tup [.ptr T[i].jid 0 0, .int .i64 0] := by unfold ptrL; simp only [hge]
        rw [hf, hp]
        refine pao [.b false, .v (.map mid 0), .v (.tup [.ptr T[i].jid 0 0, .bool true]), .b false, .v (.map T[i].tid 0), .v (.tup [.int .i64 (T[i].till.getD j (0, 0)).2, .bool true]), .b false] rfl ?_ ?_
        · (repeat' with_reducible apply AllP_cons) <;> try exact aC
          · exact OpSpec.loadP rfl rfl rfl rfl hL.qb rfl
          · exact OpSpec.lookG (a := .str name) (z := .nilp) (some (i, .ptr T[i].jid 0 0)) rfl rfl rfl rfl rfl hL.mb (by rw [findE0, hitE_some ha hi]) rfl rfl
          · exact OpSpec.loadP rfl rfl rfl rfl hj rfl
          · rw [← hlk]; exact lookW_spec rfl rfl rfl rfl rfl rfl ht
        exact S_ret ⟨_, _, rfl, trivial, rfl, hL, hK⟩
def beE (t : TM) (n w : Int) (e : JE) : JE := { e with till := match hasW e.till w with
  | some j => e.till.set j (w, n + t.last)
  | none => e.till }
def dlE (w : Int) (e : JE) : JE := { e with till := match hasW e.till w with
  | some j => e.till.eraseIdx j
  | none => e.till }
def dnE (t : TM) (w : Int) (good : Bool) (e : JE) : JE := match good with
  | true => { e with st := 3, till := [] }
  | false => freeE t.tries (dlE w e)
def actS (f : JE → JE) (t : TM) (now n w : Int) (s : Nm) (es : List JE) : Int × Int × List JE :=
  if errT n now [w] = 0 then
    match fndL (es.map (tickE t.tries n)) s w with
    | none => (5, n, es.map (tickE t.tries n))
    | some i => match (es.map (tickE t.tries n))[i]? with
      | none => (5, n, es.map (tickE t.tries n))
      | some e => (0, n, (es.map (tickE t.tries n)).set i (f e))
  else (errT n now [w], now, es)
theorem hitI_of {l : List (Int × Int)} {w : Int} {j : Nat} (h : hasW l w = some j) : hitI l w = some (j, .int .i64 (l.getD j (0, 0)).2) := by
  unfold hitI; unfold hasW at h; rw [h]; rfl
theorem Beat_ok (σ : Heap) (q mid : Nat) (t : TM) (now n w : Int) (es : List JE) (name : Nm) (h : LAt σ q mid none t now es) (hb : BdOk t es) :
    CallOk cx 14 [.ptr q 0 0, .str name, .int .i64 w, .int .i64 n] σ (fun o s => o = .ret (.int .i64 (codeS (actS (beE t n w) t now n w name es))) ∧ LAt s q mid none t (nowS (actS (beE t n w) t now n w name es)) (esS (actS (beE t n w) t now n w name es)) ∧ QKeep σ s (OwnL q mid es) (OwnL q mid es)) :=
  callOk_intro (fun a w => Try.call14 a w) Try.func14 rfl Try.ntmps14 rfl fun B => by
    by_cases he : errT n now [w] = 0
    · have hH := held_ok σ q mid t now n w es name h hb he
      obtain ⟨hn0, hn1, _⟩ := errT_n he
      unfold actS
      rw [if_pos he]
      obtain ⟨T, hTd⟩ : ∃ T, T = es.map (tickE t.tries n) := ⟨_, rfl⟩
      have hown : OwnL q mid T = OwnL q mid es := by rw [hTd]; exact own_map _ fun e => ⟨(tickE_jid _ _ e).1, (tickE_jid _ _ e).2.1⟩
      rw [← hTd] at hH ⊢
      refine pao [] rfl ?_ ?_
      · (repeat' with_reducible apply AllP_cons) <;> try exact aC
      refine S_call rfl rfl rfl hH (fun v s hR => ?_) (fun v s hR => by obtain ⟨hR, _⟩ := hR; cases hR)
      obtain ⟨hR, hL, hK⟩ := hR
      cases hR
      cases hf : fndL T name w with
      | none =>
        refine pao [.b false] rfl ?_ ?_
        · (repeat' with_reducible apply AllP_cons) <;> try exact aC
        exact S_ret ⟨_, _, rfl, trivial, rfl, hL, hK⟩
      | some i =>
        obtain ⟨hi, j, hh, _⟩ := fndL_some hf
        have hge : T[i]? = some T[i] := List.getElem?_eq_getElem hi
        have hp : ptrL T (some i) = .tup [.ptr T[i].jid 0 0, .int .i64 0] := by unfold ptrL; simp only [hge]
        rw [hp]
        simp only [hge]
        have hm := List.getElem_mem hi
        obtain ⟨e, hee⟩ : ∃ e, e = T[i] := ⟨_, rfl⟩
        rw [← hee] at hm hh ⊢
        have hj := hL.jb e hm
        have ht := hL.tb e hm
        have ap := hL.ap hm
        obtain ⟨T2, hT2⟩ : ∃ T2 : Nat × Option Box, T2 = (0, some (.map (tilK (beE t n w e).till) none)) := ⟨_, rfl⟩
        refine pao [.b true] rfl ?_ ?_
        · (repeat' with_reducible apply AllP_cons) <;> try exact aC
        refine S_drawO 12 [.map e.tid 0, .int .i64 t.last] rfl rfl rfl rfl ?_ ?_
        · (repeat' with_reducible apply AllP_cons) <;> try exact aC
          · exact OpSpec.loadP rfl rfl rfl rfl hj rfl
          · exact OpSpec.loadP rfl rfl rfl rfl hL.qb rfl
        refine pao [.f (.tup []) (fun s => s.set e.tid T2)] rfl ?_ ?_
        · (repeat' with_reducible apply AllP_cons) <;> try exact aC
          · refine OpSpec.putG (a := .int .i64 w) (v := .int .i64 (n + t.last)) (hitI e.till w) rfl rfl rfl rfl rfl ?_ ht (by rw [findI0]) ?_
            · show AV.int .i64 (IntKind.i64.wrap (n + t.last)) = _
              exact ai64i rfl ⟨by have := hb.l1; omega, by have := hb.l2; omega⟩
            · rw [hitI_of hh, hT2]
              show List.set _ _ (0, some (Box.map ((tilK e.till).set j (.int .i64 w, .int .i64 (n + t.last))) none)) = _
              have : (tilK e.till).set j (AV.int .i64 w, AV.int .i64 (n + t.last)) = tilK (beE t n w e).till := by unfold beE; simp only [hh]; unfold tilK; rw [List.map_set]
              rw [this]
        refine S_ret ⟨_, _, rfl, trivial, rfl, ?_, ?_⟩
        · have := hL.job1 hi (beE t n w e) (by rw [← hee]; rfl) (by rw [← hee]; rfl) (by rw [← hee]; rfl)
          rw [← hee] at this
          rw [show s.set e.jid (0, some (jobB (beE t n w e))) = s from set_self hj] at this
          show LAt (s.set e.tid T2) q mid none t n (T.set i (beE t n w e))
          rw [hT2]; exact this
        · exact hK.setO (by rw [← hown]; exact own_t hm) _
    · have hH := held_bad σ q mid t now n w es name h he
      unfold actS
      rw [if_neg he]
      have c1 : (errT n now [w] == 0) = false := by simp [he]
      refine pao [.k (.tup [.nilp, .int .i64 (errT n now [w])]), .b false] rfl ?_ ?_
      · (repeat' with_reducible apply AllP_cons) <;> try exact aC
      exact S_ret ⟨_, _, rfl, trivial, rfl, h, QKeep.refl⟩
theorem Done_ok (σ : Heap) (q mid : Nat) (t : TM) (now n w : Int) (es : List JE) (name : Nm) (good : Bool) (h : LAt σ q mid none t now es) (hb : BdOk t es) :
    CallOk cx 16 [.ptr q 0 0, .str name, .int .i64 w, .int .i64 n, .bool good] σ (fun o s => o = .ret (.int .i64 (codeS (actS (dnE t w good) t now n w name es))) ∧ LAt s q mid none t (nowS (actS (dnE t w good) t now n w name es)) (esS (actS (dnE t w good) t now n w name es)) ∧ QKeep σ s (OwnL q mid es) (OwnL q mid es)) :=
  callOk_intro (fun a w => Try.call16 a w) Try.func16 rfl Try.ntmps16 rfl fun B => by
    by_cases he : errT n now [w] = 0
    · have hH := held_ok σ q mid t now n w es name h hb he
      unfold actS
      rw [if_pos he]
      obtain ⟨T, hTd⟩ : ∃ T, T = es.map (tickE t.tries n) := ⟨_, rfl⟩
      have hown : OwnL q mid T = OwnL q mid es := by rw [hTd]; exact own_map _ fun e => ⟨(tickE_jid _ _ e).1, (tickE_jid _ _ e).2.1⟩
      rw [← hTd] at hH ⊢
      refine pao [] rfl ?_ ?_
      · (repeat' with_reducible apply AllP_cons) <;> try exact aC
      refine S_call rfl rfl rfl hH (fun v s hR => ?_) (fun v s hR => by obtain ⟨hR, _⟩ := hR; cases hR)
      obtain ⟨hR, hL, hK⟩ := hR
      cases hR
      cases hf : fndL T name w with
      | none =>
        refine pao [.b true] rfl ?_ ?_
        · (repeat' with_reducible apply AllP_cons) <;> try exact aC
        exact S_ret ⟨_, _, rfl, trivial, rfl, hL, hK⟩
      | some i =>
        obtain ⟨hi, j, hh, _⟩ := fndL_some hf
        have hge : T[i]? = some T[i] := List.getElem?_eq_getElem hi
        have hp : ptrL T (some i) = .tup [.ptr T[i].jid 0 0, .int .i64 0] := by unfold ptrL; simp only [hge]
        rw [hp]
        simp only [hge]
        have hm := List.getElem_mem hi
        obtain ⟨e, hee⟩ : ∃ e, e = T[i] := ⟨_, rfl⟩
        rw [← hee] at hm hh ⊢
        have hj := hL.jb e hm
        have ht := hL.tb e hm
        have ap := hL.ap hm
        cases good with
        | true =>
          obtain ⟨J1, hJ1⟩ : ∃ J1 : Nat × Option Box, J1 = (0, some (jobB (dnE t w true e))) := ⟨_, rfl⟩
          obtain ⟨T2, hT2⟩ : ∃ T2 : Nat × Option Box, T2 = (0, some (.map (tilK (dnE t w true e).till) none)) := ⟨_, rfl⟩
          have hj1 : (s.set e.jid J1)[e.jid]? = some (0, some (jobB (dnE t w true e))) := by rw [set_eq hj, hJ1]
          have ht1 : (s.set e.jid J1)[e.tid]? = some (0, some (.map (tilK e.till) none)) := by rw [set_ne ap.jt.symm]; exact ht
          refine pao [.b false, .b true, .f (.tup []) (fun s => s.set e.jid J1), .v (.map e.tid 0), .f (.tup []) (fun s => s.set e.tid T2)] rfl ?_ ?_
          · (repeat' with_reducible apply AllP_cons) <;> try exact aC
            · exact OpSpec.storeP (id := e.jid) (gT := some 65) (cs := [.int .i64 e.st, .int .i64 e.tried, .map e.tid 0]) rfl rfl rfl rfl rfl rfl hj (lble rfl) (by rw [hJ1]; rfl)
            · exact OpSpec.loadP rfl rfl rfl rfl hj1 rfl
            · exact OpSpec.clearG rfl rfl rfl ht1 (by rw [hT2]; rfl)
          refine S_ret ⟨_, _, rfl, trivial, rfl, ?_, ?_⟩
          · have := hL.job1 hi (dnE t w true e) (by rw [← hee]; rfl) (by rw [← hee]; rfl) (by rw [← hee]; rfl)
            rw [← hee] at this
            show LAt ((s.set e.jid J1).set e.tid T2) q mid none t n (T.set i (dnE t w true e))
            rw [hJ1, hT2]; exact this
          · exact (hK.setO (by rw [← hown]; exact own_j hm) _).setO (by rw [← hown]; exact own_t hm) _
        | false =>
          obtain ⟨T2, hT2⟩ : ∃ T2 : Nat × Option Box, T2 = (0, some (.map (tilK (dlE w e).till) none)) := ⟨_, rfl⟩
          obtain ⟨J2, hJ2⟩ : ∃ J2 : Nat × Option Box, J2 = (0, some (jobB (dnE t w false e))) := ⟨_, rfl⟩
          have hL2 : LAt (s.set e.tid T2) q mid none t n (T.set i (dlE w e)) := by
            have := hL.job1 hi (dlE w e) (by rw [← hee]; rfl) (by rw [← hee]; rfl) (by rw [← hee]; rfl)
            rw [← hee] at this
            rw [show s.set e.jid (0, some (jobB (dlE w e))) = s from set_self hj] at this
            rw [hT2]; exact this
          have hi2 : i < (T.set i (dlE w e)).length := by rw [List.length_set]; exact hi
          have hgs : (T.set i (dlE w e))[i] = dlE w e := List.getElem_set_self ..
          have hF := free_ok (s.set e.tid T2) q mid none t n _ hL2 i hi2
          rw [hgs] at hF
          have hF : CallOk cx 33 [.ptr q 0 0, .ptr e.jid 0 0] (s.set e.tid T2) (fun o u => o = .ret (.bool (frees (dlE w e))) ∧ u = (s.set e.tid T2).set e.jid J2) := by rw [hJ2]; exact hF
          refine pao [.b false, .b false, .v (.map e.tid 0), .f (.tup []) (fun s => s.set e.tid T2), .f (.bool (frees (dlE w e))) (fun u => u.set e.jid J2)] rfl ?_ ?_
          · (repeat' with_reducible apply AllP_cons) <;> try exact aC
            · exact OpSpec.loadP rfl rfl rfl rfl hj rfl
            · refine OpSpec.delG (a := .int .i64 w) (hitI e.till w) rfl rfl rfl rfl rfl ht (by rw [findI0]) ?_
              rw [hitI_of hh, hT2]
              show List.set _ _ (0, some (Box.map ((tilK e.till).eraseIdx j) none)) = _
              have : (tilK e.till).eraseIdx j = tilK (dlE w e).till := by unfold dlE; simp only [hh]; unfold tilK; rw [eraseIdx_map']
              rw [this]
          obtain ⟨f1, f2, f3, f4, f5⟩ := freeE_jid t.tries (dlE w e)
          refine S_ret ⟨_, _, rfl, trivial, rfl, ?_, ?_⟩
          · have := hL2.job1 hi2 (dnE t w false e) (by rw [hgs]; exact f1) (by rw [hgs]; exact f2) (by rw [hgs]; exact f3)
            rw [hgs, List.set_set] at this
            have h6 : (s.set e.tid T2)[e.tid]? = some T2 := set_eq ht
            have h7 : ((s.set e.tid T2).set (dlE w e).jid (0, some (jobB (dnE t w false e))))[e.tid]? = some (0, some (.map (tilK (dnE t w false e).till) none)) := by
              show ((s.set e.tid T2).set e.jid _)[e.tid]? = _
              rw [set_ne ap.jt.symm, h6, hT2]
              show _ = some (0, some (Box.map (tilK (freeE t.tries (dlE w e)).till) none))
              rw [f4]
            have h8 := set_self h7
            have this : LAt (((s.set e.tid T2).set (dlE w e).jid (0, some (jobB (dnE t w false e)))).set e.tid (0, some (.map (tilK (dnE t w false e).till) none))) q mid none t n (T.set i (dnE t w false e)) := this
            rw [h8] at this
            show LAt ((s.set e.tid T2).set e.jid J2) q mid none t n (T.set i (dnE t w false e))
            rw [hJ2]; exact this
          · exact (hK.setO (by rw [← hown]; exact own_t hm) _).setO (by rw [← hown]; exact own_j hm) _
    · have hH := held_bad σ q mid t now n w es name h he
      unfold actS
      rw [if_neg he]
      have c1 : (errT n now [w] != 0) = true := by simp [he]
      refine pao [.k (.tup [.nilp, .int .i64 (errT n now [w])]), .b true] rfl ?_ ?_
      · (repeat' with_reducible apply AllP_cons) <;> try exact aC
      exact S_ret ⟨_, _, rfl, trivial, rfl, h, QKeep.refl⟩
end Go.Proofs.Ytopdpbcfgjijaaa
end
section
set_option linter.unusedVariables false
set_option linter.unusedSimpArgs false
set_option maxRecDepth 20000
set_option maxHeartbeats 4000000
namespace Go.Proofs.Ytopdpbcfgjijaaa
open Go Go.Ab Go.RowKit
theorem bl_eq (x y : List UInt8) : Op.bytesLess x y = decide (x < y) := by
  induction x generalizing y with
  | nil => cases y <;> simp [Op.bytesLess]
  | cons a x ih =>
    cases y with
    | nil => simp [Op.bytesLess]
    | cons b y =>
      rw [Op.bytesLess, ih y, Bool.eq_iff_iff]
      simp only [List.cons_lt_cons_iff, Bool.or_eq_true, Bool.and_eq_true, decide_eq_true_eq, beq_iff_eq]
theorem isNaN_c (x : ByteArray) (W : World) : Calls Try.prog 48 #[.string x] W fun e w' => e = .returned (.bool false) ∧ w' = W := by
  go_enter Try.func48, Try.ntmps48
  go_wp2
  go_ret
  exact ⟨rfl, rfl⟩
theorem isNaNI_c (x : Int) (W : World) : Calls Try.prog 49 #[.int .i64 x] W fun e w' => e = .returned (.bool false) ∧ w' = W := by
  go_enter Try.func49, Try.ntmps49
  go_wp2
  go_ret
  exact ⟨by simp, rfl⟩
def cmpT (a b : List UInt8) : Int := if a < b then -1 else if b < a then 1 else 0
def cmpI (a b : Int) : Int := if a < b then -1 else if b < a then 1 else 0
theorem bt (x : ByteArray) : x.toList = x.data.toList := by
  exact ByteArray.toList_eq x
theorem gtr_run (P : Program) (w : World) (t : TypeId) (x y : ByteArray) : (binOp .gtr t (.string x) (.string y)).run P w = .ok (.bool (Op.bytesLess y.toList x.toList)) w := by
  simp only [binOp, Op.stringOp, Sem.run_pure, Result.ok.injEq, Value.bool.injEq, and_true]
  rw [bt, bt, bl_eq, bl_eq]
  congr 1
  rw [Bool.eq_iff_iff]
  simp only [Bool.not_eq_true', Bool.or_eq_false_iff, decide_eq_false_iff_not, beq_eq_false_iff_ne, decide_eq_true_eq]
  constructor
  · rintro ⟨h1, h2⟩
    rcases Std.lt_trichotomy x.data.toList y.data.toList with h | h | h
    · exact absurd h h1
    · exact absurd h h2
    · exact h
  · intro h
    exact ⟨List.lt_asymm h, fun e => by rw [e] at h; exact absurd h (List.lt_irrefl _)⟩
theorem compare_c (x y : ByteArray) (W : World) : Calls Try.prog 40 #[.string x, .string y] W fun e w' => e = .returned (.int .i64 (cmpT x.data.toList y.data.toList)) ∧ w' = W := by
  go_enter Try.func40, Try.ntmps40
  go_wp2_with (go_at_call 48; refine (isNaN_c _ _).mono ?_; rintro e w' ⟨rfl, rfl⟩)
  · go_ret
    have h1 : x.data.toList < y.data.toList := by
      have := ‹Op.bytesLess x.toList y.toList = true›
      rw [bl_eq] at this
      simpa [bt] using this
    unfold cmpT
    rw [if_pos h1]
    exact ⟨rfl, rfl⟩
  · rw [gtr_run]
    simp only [Result.andThen_ok]
    go_wp2
    · go_ret
      have h0 : ¬ x.data.toList < y.data.toList := by
        have := ‹Op.bytesLess x.toList y.toList = false›
        rw [bl_eq] at this
        simpa [bt] using this
      have h1 : y.data.toList < x.data.toList := by
        have := ‹Op.bytesLess y.toList x.toList = true›
        rw [bl_eq] at this
        simpa [bt] using this
      unfold cmpT
      rw [if_neg h0, if_pos h1]
      exact ⟨rfl, rfl⟩
    · go_ret
      have h0 : ¬ x.data.toList < y.data.toList := by
        have := ‹Op.bytesLess x.toList y.toList = false›
        rw [bl_eq] at this
        simpa [bt] using this
      have h1 : ¬ y.data.toList < x.data.toList := by
        have := ‹Op.bytesLess y.toList x.toList = false›
        rw [bl_eq] at this
        simpa [bt] using this
      unfold cmpT
      rw [if_neg h0, if_neg h1]
      exact ⟨rfl, rfl⟩
theorem compareI_c (x y : Int) (W : World) : Calls Try.prog 41 #[.int .i64 x, .int .i64 y] W fun e w' => e = .returned (.int .i64 (cmpI x y)) ∧ w' = W := by
  go_enter Try.func41, Try.ntmps41
  go_wp2_with (go_at_call 49; refine (isNaNI_c _ _).mono ?_; rintro e w' ⟨rfl, rfl⟩)
  · go_ret
    have h : cmpI x y = -1 := by unfold cmpI; rw [if_pos (by assumption)]
    rw [h]; exact ⟨rfl, rfl⟩
  · go_ret
    have h : cmpI x y = 1 := by unfold cmpI; rw [if_neg (by omega), if_pos (by assumption)]
    rw [h]; exact ⟨rfl, rfl⟩
  · go_ret
    have h : cmpI x y = 0 := by unfold cmpI; rw [if_neg (by omega), if_neg (by omega)]
    rw [h]; exact ⟨rfl, rfl⟩
theorem or_c (b o c : Nat) (r1 r2 : Int) (W : World) (h1 : W.cell? ⟨b, o, none⟩ = some (.int .i64 r1)) (h2 : W.cell? ⟨b, o + 1, none⟩ = some (.int .i64 r2)) :
    Calls Try.prog 39 #[.slice (some ⟨b, o, none⟩) 2 c] W fun e w' => e = .returned (.int .i64 (if r1 ≠ 0 then r1 else r2)) ∧ w' = W := by
  go_enter Try.func39, Try.ntmps39
  go_wp2
  go_loop [8] (fun k => ∃ j : Nat, j ≤ 2 ∧ k = .int .i64 j ∧ (1 ≤ j → r1 = 0) ∧ (2 ≤ j → r2 = 0)) (fun k => 2 - (intOf k).toNat)
  case atStart => exact ⟨0, by omega, rfl, (fun h => absurd h (by omega)), (fun h => absurd h (by omega))⟩
  case round =>
    obtain ⟨j, hj, rfl, k1, k2⟩ := hrel
    rcases (by omega : j = 0 ∨ j = 1 ∨ j = 2) with rfl | rfl | rfl
    · go_wp2
      case roundEnd =>
        have e1 : r1 = 0 := by simpa using ‹(r1 != 0) = false›
        exact ⟨⟨1, by omega, rfl, fun _ => e1, fun h => absurd h (by omega)⟩, by decide⟩
      all_goals
        go_ret
        first
          | (have e1 : r1 ≠ 0 := by simpa using ‹(r1 != 0) = true›
             rw [if_pos e1]
             exact ⟨rfl, rfl⟩)
          | (have e1 : r1 ≠ 0 := by simpa using ‹(r1 != 0) = true›
             exact ⟨rfl, rfl⟩)
          | (exfalso; simp at *; omega)
          | trace_state
    · have e1 : r1 = 0 := k1 (by omega)
      go_wp2
      case roundEnd =>
        have e1 : r2 = 0 := by simpa using ‹(r2 != 0) = false›
        exact ⟨⟨2, by omega, rfl, fun _ => k1 (by omega), fun _ => e1⟩, by decide⟩
      all_goals
        go_ret
        exact ⟨by simp [k1 (by omega)], rfl⟩
    · go_wp2
      go_ret
      exact ⟨by simp [k1 (by omega), k2 (by omega)], rfl⟩
theorem three_c (W : World) (A B C : Obj) : ((((W.alloc A).alloc B).drew).alloc C) = Go.Sort.grow (W.drewN 1) #[A, B, C] := by
  have e : (((W.heap.push A).push B).push C) = W.heap ++ #[A, B, C] := by
    apply Array.ext'
    simp
  show ({ W with heap := ((W.heap.push A).push B).push C, drawn := W.drawn + 1 } : World) = { W with heap := W.heap ++ #[A, B, C], drawn := W.drawn + 1 }
  rw [e]
structure LE where
  job : Nm
  wk : Int
  tl : Int
instance : Inhabited LE := ⟨⟨[], 0, 0⟩⟩
def encL (x : LE) : List Value := [.string ⟨x.job.toArray⟩, .int .i64 x.wk, .int .i64 x.tl]
def cmpL (x y : LE) : Int := if cmpT x.job y.job ≠ 0 then cmpT x.job y.job else cmpI x.wk y.wk
open Go.Lib Go.Sort in
theorem closL_c (f g : LE) (W : World) : Calls Try.prog 38 #[.agg (encL f).toArray, .agg (encL g).toArray] W fun e w' => e = .returned (.int .i64 (cmpL f g)) ∧ ∃ q os', w' = grow (W.drewN q) os' := by
  have hcon := fun W' => compare_c ⟨f.job.toArray⟩ ⟨g.job.toArray⟩ W'
  have hcoi := fun W' => compareI_c f.wk g.wk W'
  unfold cmpL
  generalize hr : cmpT f.job g.job = r
  generalize hri : cmpI f.wk g.wk = ri at *
  have hcon : ∀ W', Calls Try.prog 40 #[.string ⟨f.job.toArray⟩, .string ⟨g.job.toArray⟩] W' fun e w' => e = .returned (.int .i64 r) ∧ w' = W' := by
    intro W'
    have := hcon W'
    simp only [List.toList_toArray, hr] at this
    exact this
  unfold encL
  go_enter Try.func38, Try.ntmps38
  go_wp2
  generalize hW2 : (W.alloc _).alloc _ = W2
  refine wp_region_still_tail 10 (by kernel_rfl) (by kernel_rfl) ?_
  change wpStill _ _ (World.drew W2) _ _ _
  generalize hW3 : World.drew W2 = W3
  have f0 : W3.cell? ⟨W.heap.size, 0, none⟩ = some (.string ⟨f.job.toArray⟩) := by subst hW3; subst hW2; simp
  have f1 : W3.cell? ⟨W.heap.size, 1, none⟩ = some (.int .i64 f.wk) := by subst hW3; subst hW2; simp
  have g0 : W3.cell? ⟨W.heap.size + 1, 0, none⟩ = some (.string ⟨g.job.toArray⟩) := by subst hW3; subst hW2; simp
  have g1 : W3.cell? ⟨W.heap.size + 1, 1, none⟩ = some (.int .i64 g.wk) := by subst hW3; subst hW2; simp
  simp only [List.take_succ_cons, List.take_zero, List.drop_succ_cons, List.drop_zero]
  still_step
  still_step
  still_step
  still_step
  still_call (hcon _)
  still_step
  still_step
  still_step
  still_step
  still_call (hcoi _)
  refine wpStill_nil ?_
  clear f0 f1 g0 g1 hr hri
  first
    | change wpList _ _ _ _ _ W3
    | (change wpList _ _ _ _ _ (World.drew W2); rw [hW3])
  go_wp2_with (go_at_call 39; refine (or_c _ _ _ r ri _ (by simp) (by simp)).mono ?_; rintro e w' ⟨rfl, rfl⟩)
  all_goals
    go_ret
    subst hW3
    subst hW2
    exact ⟨rfl, 1, _, three_c W _ _ _⟩
end Go.Proofs.Ytopdpbcfgjijaaa
end
section
set_option linter.unusedVariables false
set_option linter.unusedSimpArgs false
set_option maxRecDepth 20000
namespace Go.Proofs.Ytopdpbcfgjijaaa
open Go Go.Ab Go.Shelf Go.RowKit Go.Lib Go.Sort
def lay_sortl_ren : Go.Shelf.Ren := ⟨fun | 6 => 37 | 15 => 47 | 14 => 46 | 28 => 61 | 29 => 62 | 20 => 53 | 21 => 54 | 22 => 55 | 23 => 56 | 24 => 57 | 25 => 58 | 26 => 59 | 27 => 60 | 46 => 76 | 47 => 77 | 48 => 78 | 49 => 79 | 50 => 80 | 57 => 85 | n => n, fun | 22 => 34 | 24 => 52 | 25 => 78 | 3 => 3 | 39 => 84 | 0 => 0 | 53 => 96 | 55 => 98 | 4 => 4 | 46 => 90 | 45 => 89 | 50 => 67 | 5 => 5 | 9 => 9 | 66 => 108 | 70 => 112 | 76 => 116 | 77 => 47 | n => n, fun | n => n⟩
theorem lay_sortl : Go.Proofs.SlLaysF0.n6 Try.prog lay_sortl_ren := {
  mixed := by kernel_rfl
  f6 := ⟨Try.f37.name, by decide, Try.func37.trans (congrArg some (by kernel_rfl))⟩
  f14 := ⟨Try.f46.name, by decide, Try.func46.trans (congrArg some (by kernel_rfl))⟩
  f15 := Try.func47.trans (congrArg some (by kernel_rfl))
  f20 := ⟨Try.f53.name, by decide, Try.func53.trans (congrArg some (by kernel_rfl))⟩
  f21 := ⟨Try.f54.name, by decide, Try.func54.trans (congrArg some (by kernel_rfl))⟩
  f22 := ⟨Try.f55.name, by decide, Try.func55.trans (congrArg some (by kernel_rfl))⟩
  f23 := ⟨Try.f56.name, by decide, Try.func56.trans (congrArg some (by kernel_rfl))⟩
  f24 := ⟨Try.f57.name, by decide, Try.func57.trans (congrArg some (by kernel_rfl))⟩
  f25 := ⟨Try.f58.name, by decide, Try.func58.trans (congrArg some (by kernel_rfl))⟩
  f26 := ⟨Try.f59.name, by decide, Try.func59.trans (congrArg some (by kernel_rfl))⟩
  f27 := ⟨Try.f60.name, by decide, Try.func60.trans (congrArg some (by kernel_rfl))⟩
  f28 := Try.func61.trans (congrArg some (by kernel_rfl))
  f29 := Try.func62.trans (congrArg some (by kernel_rfl))
  f46 := ⟨Try.f76.name, by decide, Try.func76.trans (congrArg some (by kernel_rfl))⟩
  f47 := Try.func77.trans (congrArg some (by kernel_rfl))
  f48 := Try.func78.trans (congrArg some (by kernel_rfl))
  f49 := ⟨Try.f79.name, by decide, Try.func79.trans (congrArg some (by kernel_rfl))⟩
  f50 := ⟨Try.f80.name, by decide, Try.func80.trans (congrArg some (by kernel_rfl))⟩
  f57 := ⟨Try.f85.name, by decide, Try.func85.trans (congrArg some (by kernel_rfl))⟩
  t0 := Try.underlying0
  a0 := Try.isAgg0
  z0 := Try.sizeOf0
  v0 := Try.zeroValue0
  t3 := Try.underlying3
  a3 := Try.isAgg3
  z3 := Try.sizeOf3
  v3 := Try.zeroValue3
  t4 := Try.underlying4
  a4 := Try.isAgg4
  z4 := Try.sizeOf4
  v4 := Try.zeroValue4
  t5 := Try.underlying5
  a5 := Try.isAgg5
  z5 := Try.sizeOf5
  v5 := Try.zeroValue5
  t9 := Try.underlying9
  a9 := Try.isAgg9
  z9 := Try.sizeOf9
  v9 := Try.zeroValue9
  t22 := Try.underlying34
  a22 := Try.isAgg34
  z22 := Try.sizeOf34
  v22 := Try.zeroValue34
  t25 := Try.underlying78
  a25 := Try.isAgg78
  z25 := Try.sizeOf78
  v25 := Try.zeroValue78
  t39 := Try.underlying84
  a39 := Try.isAgg84
  z39 := Try.sizeOf84
  v39 := Try.zeroValue84
  t45 := Try.underlying89
  a45 := Try.isAgg89
  z45 := Try.sizeOf89
  v45 := Try.zeroValue89
  t46 := Try.underlying90
  a46 := Try.isAgg90
  z46 := Try.sizeOf90
  v46 := Try.zeroValue90
  t50 := Try.underlying67
  a50 := Try.isAgg67
  z50 := Try.sizeOf67
  v50 := Try.zeroValue67
  t53 := Try.underlying96
  a53 := Try.isAgg96
  z53 := Try.sizeOf96
  v53 := Try.zeroValue96
  t55 := Try.underlying98
  a55 := Try.isAgg98
  z55 := Try.sizeOf98
  v55 := Try.zeroValue98
  t66 := Try.underlying108
  a66 := Try.isAgg108
  z66 := Try.sizeOf108
  v66 := Try.zeroValue108
  t70 := Try.underlying112
  a70 := Try.isAgg112
  z70 := Try.sizeOf112
  v70 := Try.zeroValue112
  t76 := Try.underlying116
  a76 := Try.isAgg116
  z76 := Try.sizeOf116
  v76 := Try.zeroValue116
  t77 := Try.underlying47
  a77 := Try.isAgg47
  z77 := Try.sizeOf47
  v77 := Try.zeroValue47 }
end Go.Proofs.Ytopdpbcfgjijaaa
end
section
set_option linter.unusedVariables false
set_option linter.unusedSimpArgs false
set_option maxRecDepth 20000
set_option maxHeartbeats 4000000
namespace Go.Proofs.Ytopdpbcfgjijaaa
open Go Go.Ab Go.Shelf Go.RowKit Go.Lib Go.Sort
def LE.cells (x : LE) : List AV := [.str x.job, .int .i64 x.wk, .int .i64 x.tl]
def lsC (l : List LE) : List AV := l.flatMap LE.cells
theorem lsC_len (l : List LE) : (lsC l).length = l.length * 3 := by
  unfold lsC
  induction l with
  | nil => rfl
  | cons f g ih => rw [List.flatMap_cons, List.length_append, ih, List.length_cons]; show 3 + _ = _; omega
theorem lsC_one (g : List LE) : ∀ x ∈ lsC g, x.one = true := by
  intro x hx
  obtain ⟨y, hy, hx⟩ := List.mem_flatMap.1 hx
  have hx : x ∈ [AV.str y.job, .int .i64 y.wk, .int .i64 y.tl] := hx
  simp at hx; rcases hx with rfl | rfl | rfl <;> rfl
theorem lsC_at : ∀ {l : List LE} {i : Nat} (h : i < l.length), ∃ r, (lsC l).drop (i * 3) = .str l[i].job :: .int .i64 l[i].wk :: .int .i64 l[i].tl :: r
  | f :: l, 0, h => ⟨lsC l, rfl⟩
  | f :: l, i + 1, h => by
    obtain ⟨r, hr⟩ := lsC_at (l := l) (i := i) (by simpa using h)
    refine ⟨r, ?_⟩
    have e : lsC (f :: l) = [.str f.job, .int .i64 f.wk, .int .i64 f.tl] ++ lsC l := rfl
    have e2 : (i + 1) * 3 = ([.str f.job, .int .i64 f.wk, .int .i64 f.tl] : List AV).length + i * 3 := by simp; omega
    rw [e, e2, List.drop_append, Nat.add_sub_cancel_left, hr, List.drop_eq_nil_of_le (by omega)]
    rfl
def leK (f : LE) (k : Nat) : AV := match k with | 0 => .str f.job | 1 => .int .i64 f.wk | _ => .int .i64 f.tl
theorem leC_get {l : List LE} {i : Nat} (h : i < l.length * 3) : (lsC l)[i]? = some (leK (l[i / 3]'(by omega)) (i % 3)) := by
  have hq : i / 3 < l.length := by omega
  obtain ⟨r, hr⟩ := lsC_at hq
  have e : i = i / 3 * 3 + i % 3 := by omega
  have h3 : i % 3 < 3 := Nat.mod_lt _ (by decide)
  conv => lhs; rw [e]
  rw [← List.getElem?_drop, hr]
  generalize i % 3 = k at h3
  match k, h3 with
  | 0, _ => rfl
  | 1, _ => rfl
  | 2, _ => rfl
theorem leF_get {l : List LE} {i : Nat} (h : i < l.length * 3) : (flatK encL 3 l.toArray)[i]! = (encL (l[i / 3]'(by omega)))[i % 3]! := by
  rw [get_flatK encL 3 l.toArray i (by simpa using h)]
  have hq : i / 3 < l.toArray.size := by simp; omega
  rw [getElem!_pos l.toArray (i / 3) hq]
  simp
theorem leE_rel (r : Rl) (w : World) (f : LE) (k : Nat) (h : k < 3) : VRel r w (encL f)[k]! (leK f k) := by
  match k, h with
  | 0, _ => exact .str (by simp)
  | 1, _ => exact .int
  | 2, _ => exact .int
theorem leE_eq {r : Rl} {w : World} {f : LE} {k : Nat} {v : Value} (h : k < 3) (hv : VRel r w v (leK f k)) : v = (encL f)[k]! := by
  match k, h with
  | 0, _ =>
    have hv : VRel r w v (.str f.job) := hv
    cases hv with
    | str hs => show Value.string _ = .string _; rw [← hs]
  | 1, _ =>
    have hv : VRel r w v (.int .i64 f.wk) := hv
    cases hv; rfl
  | 2, _ =>
    have hv : VRel r w v (.int .i64 f.tl) := hv
    cases hv; rfl
def ltL (x y : LE) : Prop := x.job < y.job ∨ (x.job = y.job ∧ x.wk < y.wk)
instance (x y : LE) : Decidable (ltL x y) := by unfold ltL; infer_instance
theorem ltLO (f g : LE) : ltOf cmpL f g = decide (ltL f g) := by
  unfold ltOf cmpL cmpT cmpI
  rw [Bool.eq_iff_iff]
  simp only [decide_eq_true_eq]
  unfold ltL
  rcases Std.lt_trichotomy f.job g.job with h | h | h
  · simp [h]
  · rw [h]
    have h0 : ¬ g.job < g.job := List.lt_irrefl _
    by_cases h1 : f.wk < g.wk
    · simp [h0, h1]
    · by_cases h2 : g.wk < f.wk <;> simp [h0, h1, h2]
  · have h0 : ¬ f.job < g.job := List.lt_asymm h
    have h1 : f.job ≠ g.job := fun e => by rw [e] at h; exact List.lt_irrefl _ h
    simp [h, h0, h1]
theorem ltL_irr (x : LE) : ¬ ltL x x := fun h => by
  rcases h with h | ⟨_, h⟩
  · exact List.lt_irrefl _ h
  · omega
theorem ltL_trans {x y z : LE} (h1 : ltL x y) (h2 : ltL y z) : ltL x z := by
  rcases h1 with h1 | ⟨e1, h1⟩ <;> rcases h2 with h2 | ⟨e2, h2⟩
  · exact .inl (List.lt_trans h1 h2)
  · exact .inl (e2 ▸ h1)
  · exact .inl (e1 ▸ h2)
  · exact .inr ⟨e1.trans e2, by omega⟩
theorem ltL_tot {x y : LE} (hne : x.job ≠ y.job ∨ x.wk ≠ y.wk) (h : ¬ ltL y x) : ltL x y := by
  rcases Std.lt_trichotomy x.job y.job with h1 | h1 | h1
  · exact .inl h1
  · rcases hne with hne | hne
    · exact absurd h1 hne
    · refine .inr ⟨h1, ?_⟩
      by_cases h2 : x.wk < y.wk
      · exact h2
      · exact absurd (.inr ⟨h1.symm, by omega⟩) h
  · exact absurd (.inl h1) h
theorem swoL : SWO (ltOf cmpL) where
  irrefl x := by rw [ltLO]; exact decide_eq_false (ltL_irr x)
  trans x y z h1 h2 := by
    rw [ltLO] at *
    simp only [decide_eq_true_eq] at *
    exact ltL_trans h1 h2
  ntrans x y z h1 h2 := by
    rw [ltLO] at *
    simp only [decide_eq_false_iff_not] at *
    intro h
    by_cases hk : y.job ≠ z.job ∨ y.wk ≠ z.wk
    · exact h1 (ltL_trans h (by
        have := ltL_tot (x := z) (y := y) (by rcases hk with hk | hk; exact .inl hk.symm; exact .inr hk.symm) h2
        exact this))
    · have e1 : y.job = z.job := by
        by_cases e : y.job = z.job
        · exact e
        · exact absurd (.inl e) hk
      have e2 : y.wk = z.wk := by
        by_cases e : y.wk = z.wk
        · exact e
        · exact absurd (.inr e) hk
      refine h1 ?_
      unfold ltL at h ⊢
      rw [e1, e2]; exact h
theorem cmpLaysL (blk off size : Nat) (w : World) : CmpLays Try.prog 38 #[] encL 3 cmpL blk off size w :=
  fun _ _ _ _ f g => closL_c f g _
theorem sort_cL (blk off cap : Nat) (d : Array LE) (w : World) (hH : HoldsK encL 3 w blk off d) (hblk : blk < w.heap.size) (hsz : d.size < 4611686018427387904) :
    Calls Try.prog 37 #[.slice (some ⟨blk, off, none⟩) d.size cap, .func (.func 38) #[] #[]] w fun e w' =>
      e = .returned (.tuple #[]) ∧ ∃ d' n os, PermIn 0 d.size d d' ∧ SortedIn (ltOf cmpL) 0 d.size d' ∧ w' = sortWorldK encL 3 w blk off n d' os :=
  AnyQ.slices_SortFunc lay_sortl 3 Try.isAgg52 Try.sizeOf52 encL (fun _ => rfl) (fun x v hv => by simp [encL] at hv; rcases hv with rfl | rfl | rfl <;> rfl) cmpL swoL 38 #[] blk off cap d w (fun a w => Try.call38 a w) (cmpLaysL blk off d.size w) hH hblk hsz
theorem SortL_ok (o : List LE) (hne : 0 < o.length) (hlen : o.length ≤ 1000000) (hnd : (o.map fun x => (x.job, x.wk)).Nodup) {σ : Heap} {id ver : Nat} (hσ : σ[id]? = some (ver, some (.cells (lsC o) ⟨false, none⟩))) :
    CallOk cx 37 [.ms id ver 0 o.length 3 false, .func (.func 38) [] []] σ (fun e s => e = .ret (.tup []) ∧ ∃ o2, o2.Perm o ∧ o2.Pairwise ltL ∧ s = σ.set id (ver, some (.cells (lsC o2) ⟨false, none⟩))) := by
  refine ⟨fun a w => Try.call37 a w, fun r w vs hi hv => ?_⟩
  obtain ⟨hs, hv⟩ := hv
  have g0 := hv 0 (by simp)
  have g1 := hv 1 (by simp)
  have hvs : vs = #[vs.getD 0 undef, vs.getD 1 undef] := by
    have hs : vs.size = 2 := hs
    refine Array.ext (by simp [hs]) fun j h1 h2 => ?_
    match j, h1 with
    | 0, h1 => simp [Array.getD, h1]
    | 1, h1 => simp [Array.getD, h1]
    | j + 2, h1 => omega
  rw [hvs]
  generalize vs.getD 0 undef = a at g0
  generalize vs.getD 1 undef = b at g1
  have g0 : VRel r w a (.ms id ver 0 o.length 3 false) := g0
  have g1 : VRel r w b (.func (.func 38) [] []) := g1
  cases g1 with
  | func f1 hfx f2 hbx0 =>
  rename_i first captured
  have hf1 : first = #[] := Array.eq_empty_of_size_eq_zero f1
  have hf2 : captured = #[] := Array.eq_empty_of_size_eq_zero f2
  subst hf1; subst hf2
  generalize hn : o.length = n at g0
  cases g0 with
  | ms0 => omega
  | ms hρ hcap hle hff =>
  rename_i blk off cap
  rcases hi.box id ver _ hσ with ⟨blk', off', hρ', hbx⟩ | ⟨_, ro, h⟩
  case inr =>
    have h := Box.cells.inj h
    have := lsC_len o
    rw [h.1] at this; simp at this; omega
  rw [hρ] at hρ'
  obtain ⟨rfl, rfl⟩ : blk = blk' ∧ off = off' := by cases hρ'; exact ⟨rfl, rfl⟩
  obtain ⟨c, t, lo, hi0, q1, q2, q3, q4, q5⟩ := hbx
  have hcl := lsC_len o
  have hbs : blk < w.heap.size := (hi.lt _ _ _ _ hρ).2
  have hcell : ∀ j, j < o.length * 3 → c[off + j]? = some (flatK encL 3 o.toArray)[j]! := by
    intro j hj
    obtain ⟨v, k1, k2⟩ := q2 j (by omega)
    have hg := leC_get hj
    rw [List.getElem?_eq_getElem (by omega)] at hg
    rw [Option.some.inj hg] at k2
    rw [k1, leF_get hj, leE_eq (Nat.mod_lt _ (by decide)) k2]
  have hH : HoldsK encL 3 w blk off o.toArray := by
    intro j hj
    have hj : j < o.length * 3 := by simpa using hj
    refine ⟨by simp only [World.cell?, q1]; exact hcell j hj, ?_⟩
    have hjc : off + j < c.size := by
      rcases Nat.lt_or_ge (off + j) c.size with h | h
      · exact h
      · have := hcell j hj
        rw [Array.getElem?_eq_none h] at this; cases this
    simp only [World.frozen?, q1]
    cases hz : (decide (lo ≤ off + j) && decide (off + j < hi0)) with
    | false => rfl
    | true =>
      simp only [Bool.and_eq_true, decide_eq_true_eq] at hz
      have := (q4 _ hz.1 hz.2 hjc).1
      cases this
  have hc := sort_cL blk off cap o.toArray w hH hbs (by simp; omega)
  rw [show o.toArray.size = n by simpa using hn] at hc
  refine hc.mono ?_
  rintro e w' ⟨rfl, d', m, os, hp, hsd, rfl⟩
  obtain ⟨hd1, _, hd3⟩ := hp
  have hd1 : d'.size = n := by rw [hd1]; simpa using hn
  have hperm : d'.toList.Perm o := by
    have e1 : d'.extract 0 n = d' := by rw [← hd1]; simp
    have e2 : o.toArray.extract 0 n = o.toArray := by rw [← hn]; simp
    rw [e1, e2] at hd3
    simpa using hd3
  have hpw : d'.toList.Pairwise ltL := by
    rw [List.pairwise_iff_getElem]
    intro i j h1 h2 hij
    have hne : (d'.toList[i]).job ≠ (d'.toList[j]).job ∨ (d'.toList[i]).wk ≠ (d'.toList[j]).wk := by
      have hnd2 : (d'.toList.map fun x => (x.job, x.wk)).Nodup := (hperm.map _).nodup_iff.2 hnd
      by_cases e1 : (d'.toList[i]).job = (d'.toList[j]).job
      · by_cases e2 : (d'.toList[i]).wk = (d'.toList[j]).wk
        · have := nodup_inj hnd2 (i := i) (k := j) (by simpa using h1) (by simpa using h2) (by simp only [List.getElem_map, e1, e2])
          omega
        · exact .inr e2
      · exact .inl e1
    rw [Array.length_toList] at h1 h2
    have h3 := hsd i j (Nat.zero_le _) hij (by omega)
    rw [ltLO, getElem!_pos d' i h1, getElem!_pos d' j h2] at h3
    simp only [decide_eq_false_iff_not] at h3
    rw [Array.getElem_toList, Array.getElem_toList] at hne ⊢
    exact ltL_tot hne h3
  obtain ⟨o2, ho2⟩ : ∃ o2, o2 = d'.toList := ⟨_, rfl⟩
  rw [← ho2] at hperm hpw
  have hd' : d' = o2.toArray := by rw [ho2]
  have hln : o2.length = n := by rw [hperm.length_eq]; exact hn
  have hF : (flatK encL 3 d').size = n * 3 := by rw [size_flatK, hd1]
  have hheap : ∀ k, k < w.heap.size → (sortWorldK encL 3 w blk off m d' os).heap[k]? = if blk = k then some (Obj.cells (putCells _root_.id off (flatK encL 3 d') c) t (lo, hi0)) else w.heap[k]? := by
    intro k hk
    show ((w.heap.modify blk (onCells (putCells _root_.id off (flatK encL 3 d')))) ++ os)[k]? = _
    rw [Array.getElem?_append_left (by simpa using hk), Array.getElem?_modify]
    by_cases e : blk = k
    · subst e
      rw [if_pos rfl, if_pos rfl, q1]; rfl
    · rw [if_neg e, if_neg e]
  have hupd := hi.update (σ' := σ.set id (ver, some (.cells (lsC o2) ⟨false, none⟩))) (id := id) (ver := ver) (b := blk) (o := off) (x := .cells (lsC o2) ⟨false, none⟩) (w' := sortWorldK encL 3 w blk off m d' os)
    (by
      have : id < σ.length := by
        rcases Nat.lt_or_ge id σ.length with h | h
        · exact h
        · rw [List.getElem?_eq_none h] at hσ; cases hσ
      simp [this]) (fun j hj => by rw [List.getElem?_set, if_neg (Ne.symm hj)]) (fun c2 y hy => by rw [hσ] at hy; cases hy; exact .inr ⟨rfl, hρ⟩) (.inr ⟨ver, _, off, hσ, hρ⟩)
    (fun k hk hkb => by rw [hheap k hk, if_neg (Ne.symm hkb)]) (by
      show w.heap.size ≤ ((w.heap.modify blk (onCells (putCells _root_.id off (flatK encL 3 d')))) ++ os).size
      simp) (fun c2 t2 f2 hc2 => by
        rw [q1] at hc2; cases hc2
        exact ⟨_, _, by rw [hheap blk hbs, if_pos rfl], by simp [putCells]⟩) rfl rfl rfl
    (fun g => by
      refine ⟨_, t, lo, hi0, by rw [hheap blk hbs, if_pos rfl], fun i hil => ?_, lsC_one _, fun i h1 h2 h3 => ?_, fun T h => by cases h⟩
      · have hil' : i < o2.length * 3 := by rw [lsC_len] at hil; exact hil
        have hg := leC_get hil'
        rw [List.getElem?_eq_getElem hil] at hg
        rw [Option.some.inj hg]
        refine ⟨(flatK encL 3 o2.toArray)[i]!, ?_, by rw [leF_get hil']; exact leE_rel _ _ _ _ (Nat.mod_lt _ (by decide))⟩
        have hci : off + i < c.size := by
          have := hcell i (by omega)
          rcases Nat.lt_or_ge (off + i) c.size with h | h
          · exact h
          · rw [Array.getElem?_eq_none h] at this; cases this
        rw [hd']
        unfold putCells
        rw [Array.getElem?_mapIdx, Array.getElem?_eq_getElem hci]
        show some (if off ≤ off + i ∧ off + i < off + (flatK encL 3 o2.toArray).size then _root_.id ((flatK encL 3 o2.toArray)[off + i - off]!) else _) = _
        rw [if_pos ⟨by omega, by rw [size_flatK]; simp; omega⟩, Nat.add_sub_cancel_left]; rfl
      · have h3 : i < c.size := by simpa [putCells] using h3
        have := (q4 i h1 h2 h3).1
        cases this)
  exact ⟨.ret (.tup []), _, _, ⟨rfl, o2, hperm, hpw, rfl⟩, .tup rfl (fun i h => absurd h (by simp)), hupd.1, hupd.2⟩
theorem Len0_ok : Calc cx 62 [.int .u64 0] (.int .i64 0) :=
  pure_intro (fun a w => Try.call62 a w) Try.func62 rfl Try.ntmps62 rfl .int fun B => by
    refine pa [.b false, .b false, .b false] rfl ?_ ?_
    · (repeat' with_reducible apply AllP_cons) <;> try exact aC
      all_goals decide +kernel
    refine S_retc .int rfl trivial ?_
    rfl
theorem LenU0_ok : Calc cx 47 [.int .u64 0] (.int .i64 0) :=
  pure_intro (fun a w => Try.call47 a w) Try.func47 rfl Try.ntmps47 rfl .int fun B => by
    refine pa [.b false, .v (.int .i64 0)] rfl ?_ ?_
    · (repeat' with_reducible apply AllP_cons) <;> try exact aC
      · exact ⟨_, Len0_ok, .cons (.refl .int) (.nil _)⟩
    exact S_retc .int rfl trivial rfl
theorem Ins0_okL (σ : Heap) (id v : Nat) : CallOk cx 53 [.ms id v 0 0 3 false, .int .i64 0, .int .i64 0, .func (.func 38) [] []] σ (fun o s => o = .ret (.tup []) ∧ s = σ) :=
  callOk_intro (fun a w => Try.call53 a w) Try.func53 rfl Try.ntmps53 rfl fun B => by
    refine pas [] rfl ?_ ?_
    · (repeat' with_reducible apply AllP_cons) <;> try exact aC
    refine S_while (α := Unit) (fun _ => [(2, .int .i64 0), (8, .int .i64 1)]) (fun _ => σ) (fun _ => True) (fun _ => 0) () trivial (.cons rfl (.cons rfl (.nil _))) rfl ?_
    rintro ⟨⟩ _
    refine pas [.b false] rfl ?_ ?_
    · (repeat' with_reducible apply AllP_cons) <;> try exact aC
    exact S_nil ⟨_, _, rfl, trivial, rfl, rfl⟩
theorem Pdq0_okL (σ : Heap) (id v : Nat) : CallOk cx 46 [.ms id v 0 0 3 false, .int .i64 0, .int .i64 0, .int .i64 0, .func (.func 38) [] []] σ (fun o s => o = .ret (.tup []) ∧ s = σ) :=
  callOk_intro (fun a w => Try.call46 a w) Try.func46 rfl Try.ntmps46 rfl fun B => by
    refine pas [] rfl ?_ ?_
    · (repeat' with_reducible apply AllP_cons) <;> try exact aC
    refine S_while (α := Unit) (fun _ => [(0, .ms id v 0 0 3 false), (1, .int .i64 0), (2, .int .i64 0), (4, .func (.func 38) [] [])]) (fun _ => σ) (fun _ => True) (fun _ => 0) () trivial (.cons rfl (.cons rfl (.cons rfl (.cons rfl (.nil _))))) rfl ?_
    rintro ⟨⟩ _
    refine pa [.b true, .k (.tup [])] rfl ?_ ?_
    · (repeat' with_reducible apply AllP_cons) <;> try exact aC
      · exact Ins0_okL σ id v
    exact S_ret ⟨_, _, rfl, trivial, rfl, rfl⟩
theorem SortL_any (o : List LE) (hlen : o.length ≤ 1000000) (hnd : (o.map fun x => (x.job, x.wk)).Nodup) {σ : Heap} {id ver : Nat} (hσ : σ[id]? = some (ver, some (.cells (lsC o) ⟨false, none⟩))) :
    CallOk cx 37 [.ms id ver 0 o.length 3 false, .func (.func 38) [] []] σ (fun e s => e = .ret (.tup []) ∧ ∃ o2, o2.Perm o ∧ o2.Pairwise ltL ∧ s = σ.set id (ver, some (.cells (lsC o2) ⟨false, none⟩))) := by
  by_cases h0 : o = []
  · subst h0
    have hset : σ.set id (ver, some (.cells (lsC []) ⟨false, none⟩)) = σ := by
      refine List.ext_getElem? fun i => ?_
      rw [List.getElem?_set]
      split
      · rename_i h; subst h
        split
        · exact hσ.symm
        · rename_i h; rw [List.getElem?_eq_none (by omega)] at hσ; cases hσ
      · rfl
    exact callOk_intro (fun a w => Try.call37 a w) Try.func37 rfl Try.ntmps37 rfl fun B => by
      refine pas [.v (.int .i64 0), .k (.tup [])] rfl ?_ ?_
      · (repeat' with_reducible apply AllP_cons) <;> try exact aC
        · exact ⟨_, LenU0_ok, .cons (.refl .int) (.nil _)⟩
        · exact Pdq0_okL _ _ _
      exact S_nil ⟨_, _, rfl, trivial, rfl, [], .refl _, .nil, hset.symm⟩
  · exact SortL_ok o (List.length_pos_iff.2 h0) hlen hnd hσ
end Go.Proofs.Ytopdpbcfgjijaaa
end
section
set_option linter.unusedVariables false
set_option linter.unusedSimpArgs false
set_option maxRecDepth 20000
set_option maxHeartbeats 4000000
namespace Go.Proofs.Ytopdpbcfgjijaaa
open Go Go.Ab
def leP (s : Nm) (p : Int × Int) : LE := ⟨s, p.1, p.2⟩
def leJ (e : JE) : List LE := e.till.map (leP e.name)
def allL (es : List JE) : List LE := es.flatMap leJ
theorem lkG {α : Type} : ∀ (bs : List Nat) (es : List α), bs.length = es.length → bs.Nodup → ∀ i (h1 : i < bs.length) (h2 : i < es.length), (bs.zip es).lookup bs[i] = some es[i]
  | b :: bs, e :: es, hl, hn, 0, _, _ => by simp [List.zip_cons_cons, List.lookup_cons]
  | b :: bs, e :: es, hl, hn, i + 1, h1, h2 => by
    obtain ⟨hb, hn⟩ := List.nodup_cons.1 hn
    have hi : i < bs.length := Nat.lt_of_succ_lt_succ h1
    have hne : (bs[i] == b) = false := by
      simp only [beq_eq_false_iff_ne, ne_eq]
      rintro rfl
      exact hb (List.getElem_mem hi)
    rw [List.zip_cons_cons, List.lookup_cons, List.getElem_cons_succ, List.getElem_cons_succ, hne]
    exact lkG bs es (by simpa using hl) hn i hi (Nat.lt_of_succ_lt_succ h2)
def gotL {α : Type} (bs : List Nat) (es : List α) (f : α → List LE) (b : Nat) : List LE := match (bs.zip es).lookup b with
  | some e => f e
  | none => []
theorem fmcL {α β : Type} {f g : α → List β} : ∀ {l : List α}, (∀ x ∈ l, f x = g x) → l.flatMap f = l.flatMap g
  | [], _ => rfl
  | x :: r, h => by rw [List.flatMap_cons, List.flatMap_cons, h x (List.mem_cons_self ..), fmcL fun y hy => h y (List.mem_cons_of_mem _ hy)]
theorem gotL_all {α : Type} (f : α → List LE) : ∀ (bs : List Nat) (es : List α), bs.length = es.length → bs.Nodup → bs.flatMap (gotL bs es f) = es.flatMap f
  | [], [], _, _ => rfl
  | [], e :: es, hl, _ => by cases hl
  | b :: bs, [], hl, _ => by cases hl
  | b :: bs, e :: es, hl, hn => by
    obtain ⟨hb, hn⟩ := List.nodup_cons.1 hn
    have ih := gotL_all f bs es (by simpa using hl) hn
    have hc : bs.flatMap (gotL (b :: bs) (e :: es) f) = bs.flatMap (gotL bs es f) := by
      refine fmcL fun x hx => ?_
      have hne : (x == b) = false := by
        simp only [beq_eq_false_iff_ne, ne_eq]
        rintro rfl
        exact hb hx
      unfold gotL
      rw [List.zip_cons_cons, List.lookup_cons, hne]
    have h0 : gotL (b :: bs) (e :: es) f b = f e := by unfold gotL; simp [List.zip_cons_cons, List.lookup_cons]
    rw [List.flatMap_cons, hc, ih, List.flatMap_cons, h0]
theorem allL_nd : ∀ {es : List JE}, (es.map JE.name).Nodup → TilOk es → ((allL es).map fun x => (x.job, x.wk)).Nodup
  | [], _, _ => .nil
  | e :: es, hn, ht => by
    obtain ⟨h1, h2⟩ := List.nodup_cons.1 (show (e.name :: es.map JE.name).Nodup from hn)
    have ih := allL_nd h2 fun x hx => ht x (List.mem_cons_of_mem _ hx)
    have e1 : allL (e :: es) = leJ e ++ allL es := rfl
    rw [e1, List.map_append]
    refine List.nodup_append.2 ⟨?_, ih, fun x hx y hy => ?_⟩
    · have hk := ht e (List.mem_cons_self ..)
      unfold leJ
      rw [List.map_map]
      have : ((fun x : LE => (x.job, x.wk)) ∘ leP e.name) = (fun w : Int => (e.name, w)) ∘ Prod.fst := rfl
      rw [this, ← List.map_map]
      exact List.Pairwise.map _ (fun a b hab => by simpa using hab) hk
    · rintro rfl
      obtain ⟨a, ha, rfl⟩ := List.mem_map.1 hx
      obtain ⟨b, hb, hab⟩ := List.mem_map.1 hy
      obtain ⟨p, _, rfl⟩ := List.mem_map.1 ha
      obtain ⟨x, hx', hb⟩ := List.mem_flatMap.1 hb
      obtain ⟨p', _, rfl⟩ := List.mem_map.1 hb
      have : x.name = e.name := congrArg Prod.fst hab
      exact h1 (this ▸ List.mem_map_of_mem hx')
theorem lsC_snoc (l : List LE) (x : LE) : lsC l ++ x.cells = lsC (l ++ [x]) := by unfold lsC; rw [List.flatMap_append]; simp
structure LvOk (es : List JE) : Prop where
  el : es.length ≤ 1000
  tl : TilOk es
  tn : ∀ e ∈ es, e.till.length ≤ 1000
  nn : (es.map JE.name).Nodup
theorem Leases_ok (σ : Heap) (q mid : Nat) (t : TM) (now : Int) (es : List JE) (h : LAt σ q mid none t now es) (hb : LvOk es) :
    CallOk cx 23 [.ptr q 0 0] σ (fun o s => ∃ w wv out, o = .ret (.ms w wv 0 out.length 3 false) ∧ σ.length ≤ w ∧ s[w]? = some (wv, some (.cells (lsC out) ⟨false, none⟩)) ∧ out.Perm (allL es) ∧ out.Pairwise ltL ∧ LAt s q mid none t now es ∧ QKeep σ s (OwnL q mid es) (OwnL q mid es)) :=
  callOk_intro (fun a w => Try.call23 a w) Try.func23 rfl Try.ntmps23 rfl fun B => by
    refine pao [.v (.map mid 0), .s] rfl ?_ ?_
    · (repeat' with_reducible apply AllP_cons) <;> try exact aC
      · exact OpSpec.loadP rfl rfl rfl rfl h.qb rfl
    refine S_ghostF (t := 3) (gid := σ.length) (gver := 0) (σ' := σ ++ [(0, some (.cells [] ⟨false, none⟩))]) 3 ⟨false, none⟩ rfl (alloc_last h.al _) ⟨.skip, _, .inr ⟨_, _, _, rfl⟩⟩ ?_
    have hL2 : LAt (σ ++ [(0, some (.cells [] ⟨false, none⟩))]) q mid none t now es := h.app _ _
    have hK2 : QKeep σ (σ ++ [(0, some (.cells [] ⟨false, none⟩))]) (OwnL q mid es) (OwnL q mid es) := QKeep.app
    have hg2 : (σ ++ [((0, some (.cells [] ⟨false, none⟩)) : Nat × Option Box)])[σ.length]? = some (0, some (.cells [] ⟨false, none⟩)) := app_last
    have hlen2 : (σ ++ [((0, some (.cells [] ⟨false, none⟩)) : Nat × Option Box)]).length = σ.length + 1 := by simp
    generalize (σ ++ [((0, some (.cells [] ⟨false, none⟩)) : Nat × Option Box)]) = σ2 at *
    refine S_stamp (id := mid) hL2.mb (fun bs c0 hbl hbn hbc => ?_) ⟨.skip, _, .inr ⟨_, _, _, rfl⟩⟩
    have hbl : bs.length = es.length := by rw [hbl]; simp [entK]
    have hL3 := hL2.stamp (some (bs, c0))
    have hno : ∀ id, σ.length ≤ id → ¬ OwnL q mid es id := fun id hid ho => by have := h.lt _ ho; omega
    have hgm : σ.length ≠ mid := fun e => hno _ (Nat.le_refl _) (e ▸ own_m)
    have hK3 : QKeep σ (σ2.set mid (0, some (.map (entK es) (some (bs, c0))))) (OwnL q mid es) (OwnL q mid es) := hK2.setO own_m _
    have hg3 : (σ2.set mid (0, some (.map (entK es) (some (bs, c0)))))[σ.length]? = some (0, some (.cells [] ⟨false, none⟩)) := by rw [set_ne hgm]; exact hg2
    have hlen3 : (σ2.set mid (0, some (.map (entK es) (some (bs, c0))))).length = σ.length + 1 := by rw [List.length_set]; exact hlen2
    generalize σ2.set mid (0, some (.map (entK es) (some (bs, c0)))) = σ3 at *
    refine pao [.f (.ptr σ3.length 0 0) (fun s => s ++ [(0, some (.miter mid 0 c0 [] c0))])] rfl ?_ ?_
    · (repeat' with_reducible apply AllP_cons) <;> try exact aC
      · exact OpSpec.rangeG hL3.al rfl rfl rfl hL3.mb rfl
    rw [hlen3]
    have hL4 : LAt (σ3 ++ [(0, some (.miter mid 0 c0 [] c0))]) q mid (some (bs, c0)) t now es := hL3.app _ _
    have hK4 : QKeep σ (σ3 ++ [(0, some (.miter mid 0 c0 [] c0))]) (OwnL q mid es) (OwnL q mid es) := hK3.trans QKeep.app
    have hg4 : (σ3 ++ [((0, some (.miter mid 0 c0 [] c0)) : Nat × Option Box)])[σ.length]? = some (0, some (.cells [] ⟨false, none⟩)) := app_get hg3
    have hm4 : (σ3 ++ [((0, some (.miter mid 0 c0 [] c0)) : Nat × Option Box)])[σ.length + 1]? = some (0, some (.miter mid 0 c0 [] c0)) := by rw [← hlen3]; exact app_last
    obtain ⟨look, hlook⟩ : ∃ look : Nat → List LE, look = gotL bs es leJ := ⟨_, rfl⟩
    refine S_heap (σ3 ++ [((0, some (.miter mid 0 c0 [] c0)) : Nat × Option Box)]) rfl ?_
    generalize σ3 ++ [((0, some (.miter mid 0 c0 [] c0)) : Nat × Option Box)] = σ4 at *
    have hnat : ∀ sn : List Nat, sn.Nodup → (∀ x ∈ sn, x ∈ bs) → sn.length ≤ bs.length := fun sn h1 h2 => List.Nodup.length_le_of_subset h1 h2
    refine S_while (α := Heap × List Nat × List LE) (fun s => [(0, .ptr q 0 0), (3, .ms σ.length s.2.2.length 0 s.2.2.length 3 false), (12, .ptr (σ.length + 1) 0 0)]) (fun s => s.1)
      (fun s => LAt s.1 q mid (some (bs, c0)) t now es ∧ QKeep σ s.1 (OwnL q mid es) (OwnL q mid es) ∧ s.1[σ.length]? = some (s.2.2.length, some (.cells (lsC s.2.2) ⟨false, none⟩)) ∧ s.1[σ.length + 1]? = some (0, some (.miter mid 0 c0 s.2.1 c0)) ∧ s.2.1.Nodup ∧ (∀ x ∈ s.2.1, x ∈ bs) ∧ s.2.2.Perm (s.2.1.flatMap look) ∧ s.2.2.length ≤ s.2.1.length * 1000)
      (fun s => bs.length - s.2.1.length) (σ4, [], []) ⟨hL4, hK4, hg4, hm4, .nil, (fun x h => by cases h), .refl _, Nat.le_refl _⟩ (.cons rfl (.cons rfl (.cons rfl (.nil _)))) rfl ?_
    rintro ⟨u, sn, out⟩ ⟨hL, hK, hg, hm, hs1, hs2, hs3, hs4⟩
    simp only at hL hK hg hm hs1 hs2 hs3 hs4
    refine pao [] rfl ?_ ?_
    · (repeat' with_reducible apply AllP_cons) <;> try exact aC
    refine S_mnext (id := σ.length + 1) (ver := 0) (mid := mid) (mver := 0) (since := c0) (last := c0) (c := c0) (seen := sn) (bs := bs) (kvs := entK es) rfl rfl hm hL.mb (fun x hx => hbc x hx) (Nat.le_refl _) rfl rfl ?_ ?_
    · intro i b hi2 hb' hns
      have hi : i < es.length := by simpa [entK] using hi2
      have hib : i < bs.length := by omega
      have hbe : bs[i] = b := by rw [List.getElem?_eq_getElem hib] at hb'; exact Option.some.inj hb'
      have hbm : b ∈ bs := hbe ▸ List.getElem_mem hib
      have hn2 : (sn ++ [b]).Nodup := List.nodup_append.2 ⟨hs1, by simp, fun x hx y hy => by simp at hy; subst hy; exact fun e => hns (e ▸ hx)⟩
      have hm2 : ∀ x ∈ sn ++ [b], x ∈ bs := fun x hx => by
        rcases List.mem_append.1 hx with hx | hx
        · exact hs2 x hx
        · simp at hx; subst hx; exact hbm
      have hlen2' := hnat _ hn2 hm2
      have hsl : (sn ++ [b]).length = sn.length + 1 := by simp
      rw [hsl] at hlen2'
      have hlk : look b = leJ es[i] := by
        rw [hlook, ← hbe]
        unfold gotL
        rw [lkG bs es hbl hbn i hib hi]
      have hmemE : es[i] ∈ es := List.getElem_mem hi
      have hTi := hb.tl _ hmemE
      have hTn := hb.tn _ hmemE
      have hkv : (entK es)[i]? = some (.str es[i].name, .ptr es[i].jid 0 0) := by
        unfold entK; rw [List.getElem?_map, List.getElem?_eq_getElem hi]; rfl
      have hL6 : LAt (u.set (σ.length + 1) (0, some (.miter mid 0 c0 (sn ++ [b]) c0))) q mid (some (bs, c0)) t now es := hL.mono (Alive.set hL.al _ _ _) fun id ho => set_ne fun e => by subst e; exact hno _ (Nat.le_succ _) ho
      have hK6 : QKeep σ (u.set (σ.length + 1) (0, some (.miter mid 0 c0 (sn ++ [b]) c0))) (OwnL q mid es) (OwnL q mid es) := hK.set (Nat.le_succ σ.length) _
      have hg6 : (u.set (σ.length + 1) (0, some (.miter mid 0 c0 (sn ++ [b]) c0)))[σ.length]? = some (out.length, some (.cells (lsC out) ⟨false, none⟩)) := by rw [set_ne (by omega)]; exact hg
      have hm6 : (u.set (σ.length + 1) (0, some (.miter mid 0 c0 (sn ++ [b]) c0)))[σ.length + 1]? = some (0, some (.miter mid 0 c0 (sn ++ [b]) c0)) := set_eq hm
      generalize es[i] = e at *
      refine pao [.b true, .s] rfl ?_ ?_
      · (repeat' with_reducible apply AllP_cons) <;> try exact aC
      refine S_heap (u.set (σ.length + 1) (0, some (.miter mid 0 c0 (sn ++ [b]) c0))) rfl ?_
      generalize u.set (σ.length + 1) (0, some (.miter mid 0 c0 (sn ++ [b]) c0)) = u6 at *
      have ap := hL6.ap hmemE
      have hje := hL6.jb e hmemE
      have hte := hL6.tb e hmemE
      refine pao [.v (.tup [.str e.name, .ptr e.jid 0 0]), .v (.map e.tid 0), .s] rfl ?_ ?_
      · (repeat' with_reducible apply AllP_cons) <;> try exact aC
        · exact OpSpec.entryG rfl rfl hm6 hL6.mb hb' hkv
        · exact OpSpec.loadP rfl rfl rfl rfl hje rfl
      refine S_stamp (id := e.tid) hte (fun bs2 c2 hl2 hn2' hc2 => ?_) ⟨.skip, _, .inr ⟨_, _, _, rfl⟩⟩
      have hl2 : bs2.length = e.till.length := by rw [hl2]; simp [tilK]
      have hgt : σ.length ≠ e.tid := fun x => hno _ (Nat.le_refl _) (x ▸ own_t hmemE)
      have hgt1 : σ.length + 1 ≠ e.tid := fun x => hno (σ.length + 1) (Nat.le_succ _) (x ▸ own_t hmemE)
      have hal7 : Alive (u6.set e.tid (0, some (.map (tilK e.till) (some (bs2, c2))))) := Alive.set hL6.al _ _ _
      have hte7 : (u6.set e.tid (0, some (.map (tilK e.till) (some (bs2, c2)))))[e.tid]? = some (0, some (.map (tilK e.till) (some (bs2, c2)))) := set_eq hte
      have hot7 : ∀ id, id ≠ e.tid → (u6.set e.tid (0, some (.map (tilK e.till) (some (bs2, c2)))))[id]? = u6[id]? := fun id hid => set_ne hid
      have hlen7 : (u6.set e.tid (0, some (.map (tilK e.till) (some (bs2, c2))))).length = u6.length := List.length_set ..
      generalize u6.set e.tid (0, some (.map (tilK e.till) (some (bs2, c2)))) = u7 at *
      refine pao [.f (.ptr u7.length 0 0) (fun s => s ++ [(0, some (.miter e.tid 0 c2 [] c2))])] rfl ?_ ?_
      · (repeat' with_reducible apply AllP_cons) <;> try exact aC
        · exact OpSpec.rangeG hal7 rfl rfl rfl hte7 rfl
      have htj : e.tid ≠ u7.length := by have := lt_of_get hte7; omega
      have hgj : σ.length ≠ u7.length := by have := lt_of_get hg6; omega
      have hgj1 : σ.length + 1 ≠ u7.length := by have := lt_of_get hm6; omega
      have hal8 : Alive (u7 ++ [(0, some (.miter e.tid 0 c2 [] c2))]) := Alive.app hal7 _ _
      have hte8 : (u7 ++ [((0, some (.miter e.tid 0 c2 [] c2)) : Nat × Option Box)])[e.tid]? = some (0, some (.map (tilK e.till) (some (bs2, c2)))) := app_get hte7
      have hmj8 : (u7 ++ [((0, some (.miter e.tid 0 c2 [] c2)) : Nat × Option Box)])[u7.length]? = some (0, some (.miter e.tid 0 c2 [] c2)) := app_last
      have hot8 : ∀ id, id < u7.length → id ≠ e.tid → (u7 ++ [((0, some (.miter e.tid 0 c2 [] c2)) : Nat × Option Box)])[id]? = u6[id]? := fun id h1 h2 => by rw [List.getElem?_append_left h1, hot7 id h2]
      have hlen8 : (u7 ++ [((0, some (.miter e.tid 0 c2 [] c2)) : Nat × Option Box)]).length = u7.length + 1 := by simp
      refine S_heap (u7 ++ [((0, some (.miter e.tid 0 c2 [] c2)) : Nat × Option Box)]) rfl ?_
      generalize hu8 : u7 ++ [((0, some (.miter e.tid 0 c2 [] c2)) : Nat × Option Box)] = u8 at *
      generalize hmj : u7.length = mj at *
      have hg8 : u8[σ.length]? = some (out.length, some (.cells (lsC out) ⟨false, none⟩)) := by rw [hot8 _ (by have := lt_of_get hg6; omega) hgt]; exact hg6
      have hnat2 : ∀ sn : List Nat, sn.Nodup → (∀ x ∈ sn, x ∈ bs2) → sn.length ≤ bs2.length := fun sn h1 h2 => List.Nodup.length_le_of_subset h1 h2
      obtain ⟨look2, hlook2⟩ : ∃ look2 : Nat → List LE, look2 = gotL bs2 e.till (fun p => [leP e.name p]) := ⟨_, rfl⟩
      refine S_while (α := List Nat × List LE) (fun s => [(0, .ptr q 0 0), (3, .ms σ.length s.2.length 0 s.2.length 3 false), (12, .ptr (σ.length + 1) 0 0), (4, .str e.name), (22, .ptr mj 0 0)]) (fun s => (u8.set σ.length (s.2.length, some (.cells (lsC s.2) ⟨false, none⟩))).set mj (0, some (.miter e.tid 0 c2 s.1 c2)))
        (fun s => s.1.Nodup ∧ (∀ x ∈ s.1, x ∈ bs2) ∧ s.2 = out ++ s.1.flatMap look2 ∧ s.2.length = out.length + s.1.length) (fun s => bs2.length - s.1.length) ([], out) ⟨.nil, (fun x h => by cases h), by simp, by simp⟩ (.cons rfl (.cons rfl (.cons rfl (.cons rfl (.cons rfl (.nil _)))))) (by show u8 = (u8.set σ.length (out.length, some (.cells (lsC out) ⟨false, none⟩))).set mj _; rw [set_self hg8, set_self hmj8]) ?_
      rintro ⟨sn2, o2⟩ ⟨k1, k2, k3, k4⟩
      simp only at k1 k2 k3 k4
      obtain ⟨A, hA⟩ : ∃ A : Nat × Option Box, A = (o2.length, some (.cells (lsC o2) ⟨false, none⟩)) := ⟨_, rfl⟩
      show S cx _ B _ _ _ ((u8.set σ.length (o2.length, some (.cells (lsC o2) ⟨false, none⟩))).set mj (0, some (.miter e.tid 0 c2 sn2 c2)))
      rw [← hA]
      have hm9 : ((u8.set σ.length A).set mj (0, some (.miter e.tid 0 c2 sn2 c2)))[mj]? = some (0, some (.miter e.tid 0 c2 sn2 c2)) := set_eq (y := (0, some (.miter e.tid 0 c2 [] c2))) (by rw [set_ne hgj.symm]; exact hmj8)
      have ht9 : ((u8.set σ.length A).set mj (0, some (.miter e.tid 0 c2 sn2 c2)))[e.tid]? = some (0, some (.map (tilK e.till) (some (bs2, c2)))) := by rw [set_ne htj, set_ne hgt.symm]; exact hte8
      refine pao [] rfl ?_ ?_
      · (repeat' with_reducible apply AllP_cons) <;> try exact aC
      refine S_mnext (id := mj) (ver := 0) (mid := e.tid) (mver := 0) (since := c2) (last := c2) (c := c2) (seen := sn2) (bs := bs2) (kvs := tilK e.till) rfl rfl hm9 ht9 (fun x hx => hc2 x hx) (Nat.le_refl _) rfl rfl ?_ ?_
      · intro k b2 hk hb2 hns2
        have hk2 : k < e.till.length := by simpa [tilK] using hk
        have hkb : k < bs2.length := by omega
        have hbk : bs2[k] = b2 := by rw [List.getElem?_eq_getElem hkb] at hb2; exact Option.some.inj hb2
        have hbm2 : b2 ∈ bs2 := hbk ▸ List.getElem_mem hkb
        have hkv2 : (tilK e.till)[k]? = some (.int .i64 e.till[k].1, .int .i64 e.till[k].2) := by
          unfold tilK; rw [List.getElem?_map, List.getElem?_eq_getElem hk2]; rfl
        have hlk2 : look2 b2 = [leP e.name e.till[k]] := by
          rw [hlook2, ← hbk]
          unfold gotL
          rw [lkG bs2 e.till hl2 hn2' k hkb hk2]
        have hn3 : (sn2 ++ [b2]).Nodup := List.nodup_append.2 ⟨k1, by simp, fun x hx y hy => by simp at hy; subst hy; exact fun e => hns2 (e ▸ hx)⟩
        have hm3 : ∀ x ∈ sn2 ++ [b2], x ∈ bs2 := fun x hx => by
          rcases List.mem_append.1 hx with hx | hx
          · exact k2 x hx
          · simp at hx; subst hx; exact hbm2
        have hlen3' := hnat2 _ hn3 hm3
        have hsl2 : (sn2 ++ [b2]).length = sn2.length + 1 := by simp
        rw [hsl2] at hlen3'
        have hmA : (((u8.set σ.length A).set mj (0, some (.miter e.tid 0 c2 sn2 c2))).set mj (0, some (.miter e.tid 0 c2 (sn2 ++ [b2]) c2))) = (u8.set σ.length A).set mj (0, some (.miter e.tid 0 c2 (sn2 ++ [b2]) c2)) := List.set_set ..
        rw [hmA]
        have hm10 : ((u8.set σ.length A).set mj (0, some (.miter e.tid 0 c2 (sn2 ++ [b2]) c2)))[mj]? = some (0, some (.miter e.tid 0 c2 (sn2 ++ [b2]) c2)) := set_eq (y := (0, some (.miter e.tid 0 c2 [] c2))) (by rw [set_ne hgj.symm]; exact hmj8)
        have ht10 : ((u8.set σ.length A).set mj (0, some (.miter e.tid 0 c2 (sn2 ++ [b2]) c2)))[e.tid]? = some (0, some (.map (tilK e.till) (some (bs2, c2)))) := by rw [set_ne htj, set_ne hgt.symm]; exact hte8
        have hg10 : ((u8.set σ.length A).set mj (0, some (.miter e.tid 0 c2 (sn2 ++ [b2]) c2)))[σ.length]? = some (o2.length, some (.cells (lsC o2) ⟨false, none⟩)) := by rw [set_ne hgj, set_eq hg8, hA]
        obtain ⟨G, hG⟩ : ∃ G : Nat × Option Box, G = (o2.length + 1, some (.cells (lsC (o2 ++ [leP e.name e.till[k]])) ⟨false, none⟩)) := ⟨_, rfl⟩
        have hl1 : (o2 ++ [leP e.name e.till[k]]).length = o2.length + 1 := by simp
        have hbig : o2.length ≤ 2000000 := by have := hb.el; omega
        refine pao [.b true, .v (.tup [.int .i64 e.till[k].1, .int .i64 e.till[k].2]), .f (.ms σ.length (o2.length + 1) 0 (o2.length + 1) 3 false) (fun s => s.set σ.length G)] rfl ?_ ?_
        · (repeat' with_reducible apply AllP_cons) <;> try exact aC
          · exact OpSpec.entryG rfl rfl hm10 ht10 hb2 hkv2
          · refine OpSpec.appendX (id := σ.length) (ver := o2.length) (off := 0) (len := o2.length) (y := .agg (leP e.name e.till[k]).cells) (cs := lsC o2) rfl rfl rfl rfl rfl ?_ hg10 ?_ ?_ ?_ ?_
            · intro z hz
              have hz : z ∈ (leP e.name e.till[k]).cells := hz
              exact lsC_one [leP e.name e.till[k]] z (by unfold lsC; simpa using hz)
            · rw [lsC_len]; omega
            · show (o2.length + 1) * 32 ≤ _; omega
            · omega
            · rw [hG, ← lsC_snoc]; rfl
        refine S_round (sn2 ++ [b2], o2 ++ [leP e.name e.till[k]]) (by show bs2.length - (sn2 ++ [b2]).length < bs2.length - sn2.length; rw [hsl2]; omega) ⟨hn3, hm3, ?_, ?_⟩ (.cons rfl (.cons (by rw [hl1]; rfl) (.cons rfl (.cons rfl (.cons rfl (.nil _)))))) ?_
        · show o2 ++ [leP e.name e.till[k]] = out ++ (sn2 ++ [b2]).flatMap look2
          rw [List.flatMap_append, List.flatMap_cons, hlk2, k3]; simp
        · show (o2 ++ [leP e.name e.till[k]]).length = out.length + (sn2 ++ [b2]).length
          rw [hl1, hsl2]; omega
        · show ((u8.set σ.length A).set mj _).set σ.length G = (u8.set σ.length _).set mj _
          rw [List.set_comm _ _ hgj.symm, List.set_set, hG, hl1]
      · intro hall2
        refine S_unstamp (id := e.tid) ht9 ?_ ⟨.skip, _, .inr ⟨_, _, _, rfl⟩⟩
        obtain ⟨W3, hW3⟩ : ∃ W3 : Heap, W3 = (((u8.set σ.length A).set mj (0, some (.miter e.tid 0 c2 sn2 c2))).set e.tid (0, some (.map (tilK e.till) none))) := ⟨_, rfl⟩
        refine S_heap W3 hW3.symm ?_
        have haW : Alive W3 := by rw [hW3]; exact Alive.set (Alive.set (by rw [hA]; exact Alive.set hal8 _ _ _) _ _ _) _ _ _
        have hoW : ∀ id, id < u6.length → id ≠ σ.length → W3[id]? = u6[id]? := fun id h1 h2 => by
          by_cases h3 : id = e.tid
          · subst h3; rw [hW3, set_eq ht9, hte]
          · rw [hW3, set_ne h3, set_ne (show id ≠ mj by omega), set_ne h2]; exact hot8 id (by omega) h3
        have hgW : W3[σ.length]? = some (o2.length, some (.cells (lsC o2) ⟨false, none⟩)) := by rw [hW3, set_ne hgt, set_ne hgj, set_eq hg8, hA]
        have hmW : W3[σ.length + 1]? = some (0, some (.miter mid 0 c0 (sn ++ [b]) c0)) := by rw [hoW _ (lt_of_get hm6) (by omega)]; exact hm6
        have hLW : LAt W3 q mid (some (bs, c0)) t now es := hL6.mono haW fun id ho => hoW id (hL6.lt id ho) (fun x => by subst x; exact hno _ (Nat.le_refl _) ho)
        have hlW : W3.length = u6.length + 1 := by rw [hW3, List.length_set, List.length_set, List.length_set]; omega
        have hKW : QKeep σ W3 (OwnL q mid es) (OwnL q mid es) := ⟨by have := hK6.len; omega, fun id hid hn => (hoW id (by have := hK6.len; omega) (by omega)).trans (hK6.same id hid hn), hK6.new⟩
        have hp2 : sn2.Perm bs2 := (List.perm_ext_iff_of_nodup k1 hn2').2 fun a => ⟨k2 a, hall2 a⟩
        have hfs : ∀ l : List (Int × Int), l.flatMap (fun p => [leP e.name p]) = l.map (leP e.name) := fun l => by
          induction l with
          | nil => rfl
          | cons x r ih => rw [List.flatMap_cons, List.map_cons, ih]; rfl
        have hpl : (sn2.flatMap look2).Perm (leJ e) := by
          refine (hp2.flatMap_right look2).trans ?_
          rw [hlook2, gotL_all _ bs2 e.till hl2 hn2', hfs]
          exact .refl _
        have hl3 := hnat2 _ k1 k2
        refine pao [.b false] rfl ?_ ?_
        · (repeat' with_reducible apply AllP_cons) <;> try exact aC
        refine S_round (W3, sn ++ [b], o2) (by show bs.length - (sn ++ [b]).length < bs.length - sn.length; rw [hsl]; omega) ⟨hLW, hKW, hgW, hmW, hn2, hm2, ?_, ?_⟩ (.cons rfl (.cons rfl (.cons rfl (.nil _)))) rfl
        · show o2.Perm ((sn ++ [b]).flatMap look)
          rw [k3, List.flatMap_append, List.flatMap_cons, hlk, List.flatMap_nil, List.append_nil]
          exact hs3.append hpl
        · show o2.length ≤ (sn ++ [b]).length * 1000
          rw [hsl, Nat.add_mul]; omega
    · intro hall
      refine pao [.b false, .s] rfl ?_ ?_
      · (repeat' with_reducible apply AllP_cons) <;> try exact aC
      refine S_unstamp (id := mid) hL.mb ?_ ⟨.skip, _, .inr ⟨_, _, _, rfl⟩⟩
      have hL5 := hL.stamp none
      have hK5 : QKeep σ (u.set mid (0, some (.map (entK es) none))) (OwnL q mid es) (OwnL q mid es) := hK.setO own_m _
      have hg5 : (u.set mid (0, some (.map (entK es) none)))[σ.length]? = some (out.length, some (.cells (lsC out) ⟨false, none⟩)) := by rw [set_ne hgm]; exact hg
      generalize u.set mid (0, some (.map (entK es) none)) = u5 at *
      have hp : sn.Perm bs := (List.perm_ext_iff_of_nodup hs1 hbn).2 fun a => ⟨hs2 a, hall a⟩
      have hpo : out.Perm (allL es) := by
        refine hs3.trans ((hp.flatMap_right look).trans ?_)
        rw [hlook, gotL_all leJ bs es hbl hbn]
        exact .refl _
      have hS := SortL_any out (by have := hnat sn hs1 hs2; have := hb.el; have : sn.length * 1000 ≤ 1000 * 1000 := Nat.mul_le_mul_right _ (by omega); omega) ((hpo.map _).nodup_iff.2 (allL_nd hb.nn hb.tl)) hg5
      refine pao [] rfl ?_ ?_
      · (repeat' with_reducible apply AllP_cons) <;> try exact aC
      refine S_call rfl rfl rfl hS (fun v s hR => ?_) (fun v s hR => by obtain ⟨hR, _⟩ := hR; cases hR)
      obtain ⟨hR, o3, hp3, hw3, rfl⟩ := hR
      cases hR
      refine pao [] rfl ?_ ?_
      · (repeat' with_reducible apply AllP_cons) <;> try exact aC
      have hl3 : out.length = o3.length := hp3.length_eq.symm
      refine S_ret ⟨_, _, rfl, trivial, σ.length, out.length, o3, ?_, Nat.le_refl _, set_eq hg5, hp3.trans hpo, hw3, ?_, hK5.set (Nat.le_refl _) _⟩
      · rw [← hl3]; rfl
      · refine hL5.mono (Alive.set hL5.al _ _ _) fun id ho => set_ne fun e => ?_
        subst e
        exact hno _ (Nat.le_refl _) ho
end Go.Proofs.Ytopdpbcfgjijaaa
end
section
set_option linter.unusedVariables false
set_option linter.unusedSimpArgs false
set_option maxRecDepth 20000
namespace Go.Proofs.Ytopdpbcfgjijaaa
open Go Go.Ab
structure EW (t : TM) (e : JE) : Prop where
  tw : (e.till.length : Int) ≤ t.twins
  t0 : 0 ≤ e.tried
  t1 : e.tried ≤ t.tries
  ho : e.till ≠ [] → e.st = 2 ∧ 1 ≤ e.tried
  tk : (e.till.map Prod.fst).Nodup
structure EOk (t : TM) (e : JE) : Prop extends EW t e where
  le : e.st = 2 → e.till ≠ []
structure BOk (t : TM) (es : List JE) : Prop where
  nn : (es.map JE.name).Nodup
  el : es.length ≤ 200
  eo : ∀ e ∈ es, EOk t e
def DnOk (dn : List Nm) (es : List JE) : Prop := ∀ s ∈ dn, ∃ e ∈ es, e.name = s ∧ e.st = 3
def LvN (n : Int) (es : List JE) : Prop := ∀ e ∈ es, ∀ p ∈ e.till, ¬ p.2 < n
structure TOk (t : TM) : Prop where
  l1 : 1 ≤ t.last
  l2 : t.last ≤ 1000000000
  r1 : 1 ≤ t.tries
  r2 : t.tries ≤ 10
  w1 : 1 ≤ t.twins
  w2 : t.twins ≤ 5
theorem TOk.of {t : TM} (h : termOk t = true) : TOk t := by
  unfold termOk witB at h
  simp only [Bool.and_eq_true, decide_eq_true_eq] at h
  exact ⟨by omega, by omega, by omega, by omega, by omega, by omega⟩
theorem BOk.bd {t : TM} {es : List JE} (h : BOk t es) (ht : TOk t) : BdOk t es :=
  ⟨ht.l1, ht.l2, by have := h.el; omega, fun e he => ⟨(h.eo e he).t0, by have := (h.eo e he).t1; have := ht.r2; omega⟩, fun e he => (h.eo e he).tk⟩
theorem BOk.lv {t : TM} {es : List JE} (h : BOk t es) (ht : TOk t) : LvOk es :=
  ⟨by have := h.el; omega, fun e he => (h.eo e he).tk, fun e he => by have := (h.eo e he).tw; have := ht.w2; omega, h.nn⟩
theorem EW.free {t : TM} {e : JE} (h : EW t e) : EOk t (freeE t.tries e) := by
  unfold freeE
  cases hf : frees e with
  | true =>
    unfold frees at hf
    rw [Bool.and_eq_true] at hf
    have he : e.till = [] := List.isEmpty_iff.1 hf.2
    rw [if_pos rfl]
    refine ⟨⟨h.tw, h.t0, h.t1, fun hn => absurd he hn, h.tk⟩, fun h2 => ?_⟩
    have h2 : (if e.tried = t.tries then (4 : Int) else 1) = 2 := h2
    split at h2 <;> cases h2
  | false =>
    rw [if_neg (by simp)]
    refine ⟨h, fun h2 hn => ?_⟩
    unfold frees at hf
    rw [h2, hn] at hf
    cases hf
theorem EOk.till {t : TM} {e : JE} (h : EOk t e) (n : Int) : EW t (tillE n e) := by
  have hs : (liv n e.till).Sublist e.till := List.filter_sublist
  refine ⟨?_, h.t0, h.t1, fun hn => h.ho fun h0 => hn ?_, h.tk.sublist (hs.map _)⟩
  · have := hs.length_le; have := h.tw
    show ((liv n e.till).length : Int) ≤ _
    omega
  · show liv n e.till = []
    rw [h0]; rfl
theorem EOk.tick {t : TM} {e : JE} (h : EOk t e) (n : Int) : EOk t (tickE t.tries n e) := (h.till n).free
theorem BOk.tick {t : TM} {es : List JE} (h : BOk t es) (n : Int) : BOk t (es.map (tickE t.tries n)) := by
  refine ⟨?_, by rw [List.length_map]; exact h.el, fun e he => ?_⟩
  · have : (es.map (tickE t.tries n)).map JE.name = es.map JE.name := by
      rw [List.map_map]
      exact List.map_congr_left fun e _ => (tickE_jid _ _ e).2.2.1
    rw [this]; exact h.nn
  · obtain ⟨x, hx, rfl⟩ := List.mem_map.1 he
    exact (h.eo x hx).tick n
theorem names_tick (es : List JE) (a n : Int) : (es.map (tickE a n)).map JE.name = es.map JE.name := by
  rw [List.map_map]
  exact List.map_congr_left fun e _ => (tickE_jid _ _ e).2.2.1
theorem tick_st {a n : Int} {e : JE} (h : e.st = 3) : (tickE a n e).st = 3 := by
  have hf : frees (tillE n e) = false := by
    unfold frees
    have : (tillE n e).st = 3 := h
    rw [this]; rfl
  unfold tickE freeE
  rw [hf]; exact h
theorem DnOk.tick {dn : List Nm} {es : List JE} (h : DnOk dn es) (a n : Int) : DnOk dn (es.map (tickE a n)) := fun s hs => by
  obtain ⟨e, he, h1, h2⟩ := h s hs
  exact ⟨_, List.mem_map_of_mem he, by rw [(tickE_jid _ _ e).2.2.1]; exact h1, tick_st h2⟩
theorem LvN.tick (es : List JE) (a n : Int) : LvN n (es.map (tickE a n)) := fun e he p hp => by
  obtain ⟨x, _, rfl⟩ := List.mem_map.1 he
  rw [(tickE_jid _ _ x).2.2.2.1] at hp
  exact of_decide_eq_true (List.mem_filter.1 hp).2
theorem BOk.set {t : TM} {es : List JE} (h : BOk t es) {i : Nat} (hi : i < es.length) {e : JE} (hn : e.name = es[i].name) (he : EOk t e) : BOk t (es.set i e) ∧ (es.set i e).map JE.name = es.map JE.name := by
  have hm : (es.set i e).map JE.name = es.map JE.name := by
    rw [List.map_set, hn]
    apply List.ext_getElem (by simp)
    intro j k1 k2
    rw [List.getElem_set]
    split
    · rename_i hij; subst hij; simp
    · rfl
  refine ⟨⟨by rw [hm]; exact h.nn, by rw [List.length_set]; exact h.el, fun x hx => ?_⟩, hm⟩
  rcases List.mem_or_eq_of_mem_set hx with hx | rfl
  · exact h.eo x hx
  · exact he
theorem DnOk.set {dn : List Nm} {es : List JE} (h : DnOk dn es) {i : Nat} (hi : i < es.length) (hs : es[i].st ≠ 3) (e : JE) : DnOk dn (es.set i e) := fun s hs' => by
  obtain ⟨x, hx, h1, h2⟩ := h s hs'
  obtain ⟨j, hj, rfl⟩ := List.getElem_of_mem hx
  have hij : i ≠ j := fun e => by subst e; exact hs h2
  refine ⟨es[j], ?_, h1, h2⟩
  have : (es.set i e)[j]'(by rw [List.length_set]; exact hj) = es[j] := List.getElem_set_ne hij _
  rw [← this]; exact List.getElem_mem _
theorem LvN.set {n : Int} {es : List JE} (h : LvN n es) {i : Nat} {e : JE} (he : ∀ p ∈ e.till, ¬ p.2 < n) : LvN n (es.set i e) := fun x hx => by
  rcases List.mem_or_eq_of_mem_set hx with hx | rfl
  · exact h x hx
  · exact he
theorem errT_3 {n now : Int} {ws : List Int} (h1 : 0 ≤ n) (h2 : n ≤ 1000000000) (h3 : now ≤ n) : errT n now ws = 0 ∨ errT n now ws = 3 := by
  unfold errT
  by_cases h : ws.any wrkB = true
  · rw [if_pos h]; exact .inr rfl
  · have hw : ¬ witB n 0 1000000000 = false := by unfold witB; simp [h1, h2]
    rw [if_neg h, if_neg hw, if_neg (by omega)]; exact .inl rfl
structure Aft (t : TM) (n : Int) (dn : List Nm) (es : List JE) (r : Int × Int × List JE) : Prop where
  b : BOk t (esS r)
  nw : nowS r ≤ n
  nm : (esS r).map JE.name = es.map JE.name
  dn : DnOk dn (esS r)
  lv : codeS r ≠ 3 → LvN n (esS r)
theorem hasW_some {l : List (Int × Int)} {w : Int} {j : Nat} (h : hasW l w = some j) : ∃ hj : j < l.length, l[j].1 = w := by
  obtain ⟨hj, h1, _⟩ := List.findIdx?_eq_some_iff_getElem.1 h
  exact ⟨hj, by simpa using h1⟩
theorem hasW_none {l : List (Int × Int)} {w : Int} (h : hasW l w = none) : w ∉ l.map Prod.fst := fun hm => by
  obtain ⟨p, hp, rfl⟩ := List.mem_map.1 hm
  have := List.findIdx?_eq_none_iff.1 h p hp
  simp at this
theorem grant_aft {t : TM} (ht : TOk t) {now n w : Int} {s : Nm} {dn : List Nm} {es : List JE} (hb : BOk t es) (hd : DnOk dn es) (h1 : 0 ≤ n) (h2 : n ≤ 1000000000) (h3 : now ≤ n) : Aft t n dn es (grantS t now n w s es) := by
  unfold grantS
  rcases errT_3 (ws := [w]) h1 h2 h3 with he | he
  · rw [if_pos he]
    have hbT := hb.tick n
    have hdT := hd.tick t.tries n
    have hlT := LvN.tick es t.tries n
    have hnT := names_tick es t.tries n
    generalize es.map (tickE t.tries n) = T at *
    cases ha : atL T s with
    | none => exact ⟨hbT, Int.le_refl _, hnT, hdT, fun _ => hlT⟩
    | some i =>
      obtain ⟨hi, _⟩ := atL_some ha
      simp only [List.getElem?_eq_getElem hi]
      have hei := hbT.eo _ (List.getElem_mem hi)
      have hli := hlT _ (List.getElem_mem hi)
      by_cases hg : grC t w T[i] = 0
      · rw [if_pos hg]
        unfold grC at hg
        by_cases g1 : T[i].st = 3 ∨ T[i].st = 4
        · rw [if_pos g1] at hg; cases hg
        rw [if_neg g1] at hg
        by_cases g2 : (hasW T[i].till w).isSome = true
        · rw [if_pos g2] at hg; cases hg
        rw [if_neg g2] at hg
        by_cases g3 : (T[i].till.length : Int) = t.twins ∨ T[i].tried = t.tries
        · rw [if_pos g3] at hg; cases hg
        have hw : hasW T[i].till w = none := by
          cases hh : hasW T[i].till w with
          | none => rfl
          | some j => rw [hh] at g2; simp at g2
        have hne : EOk t (grE t n w T[i]) := by
          refine ⟨⟨?_, ?_, ?_, fun _ => ⟨rfl, ?_⟩, ?_⟩, fun _ => ?_⟩
          · show (((T[i].till ++ [(w, n + t.last)]).length : Nat) : Int) ≤ _
            rw [List.length_append, List.length_singleton]
            have := hei.tw
            have : ¬ (T[i].till.length : Int) = t.twins := fun x => g3 (.inl x)
            omega
          · show 0 ≤ T[i].tried + 1
            have := hei.t0; omega
          · show T[i].tried + 1 ≤ _
            have := hei.t1
            have : ¬ T[i].tried = t.tries := fun x => g3 (.inr x)
            omega
          · show 1 ≤ T[i].tried + 1
            have := hei.t0; omega
          · show ((T[i].till ++ [(w, n + t.last)]).map Prod.fst).Nodup
            rw [List.map_append]
            refine List.nodup_append.2 ⟨hei.tk, by simp, fun a ha' b hb' => ?_⟩
            have : b = w := by simpa using hb'
            subst this
            exact fun e => hasW_none hw (e ▸ ha')
          · show T[i].till ++ [(w, n + t.last)] ≠ []
            simp
        obtain ⟨k1, k2⟩ := hbT.set hi (e := grE t n w T[i]) rfl hne
        refine ⟨k1, Int.le_refl _, k2.trans hnT, hdT.set hi (fun h => g1 (.inl h)) _, fun _ => hlT.set fun p hp => ?_⟩
        have hp : p ∈ T[i].till ++ [(w, n + t.last)] := hp
        rcases List.mem_append.1 hp with hp | hp
        · exact hli p hp
        · have : p = (w, n + t.last) := by simpa using hp
          rw [this]
          have := ht.l1
          show ¬ n + t.last < n
          omega
      · rw [if_neg hg]
        exact ⟨hbT, Int.le_refl _, hnT, hdT, fun _ => hlT⟩
  · rw [if_neg (by rw [he]; decide)]
    exact ⟨hb, h3, rfl, hd, fun h => absurd he h⟩
theorem act_aft {t : TM} {f : JE → JE} {now n w : Int} {s : Nm} {dn : List Nm} {es : List JE} (hb : BOk t es) (hd : DnOk dn es) (h1 : 0 ≤ n) (h2 : n ≤ 1000000000) (h3 : now ≤ n)
    (hf : ∀ e j, EOk t e → (∀ p ∈ e.till, ¬ p.2 < n) → hasW e.till w = some j → EOk t (f e) ∧ (f e).name = e.name ∧ ∀ p ∈ (f e).till, ¬ p.2 < n) : Aft t n dn es (actS f t now n w s es) := by
  unfold actS
  rcases errT_3 (ws := [w]) h1 h2 h3 with he | he
  · rw [if_pos he]
    have hbT := hb.tick n
    have hdT := hd.tick t.tries n
    have hlT := LvN.tick es t.tries n
    have hnT := names_tick es t.tries n
    generalize es.map (tickE t.tries n) = T at *
    cases ha : fndL T s w with
    | none => exact ⟨hbT, Int.le_refl _, hnT, hdT, fun _ => hlT⟩
    | some i =>
      obtain ⟨hi, j, hj, _⟩ := fndL_some ha
      simp only [List.getElem?_eq_getElem hi]
      have hei := hbT.eo _ (List.getElem_mem hi)
      have hli := hlT _ (List.getElem_mem hi)
      obtain ⟨q1, q2, q3⟩ := hf T[i] j hei hli hj
      obtain ⟨k1, k2⟩ := hbT.set hi (e := f T[i]) q2 q1
      have hst : T[i].st ≠ 3 := fun h => by
        obtain ⟨hjl, _⟩ := hasW_some hj
        have := (hei.ho fun h0 => by rw [h0] at hjl; cases hjl).1
        rw [h] at this; cases this
      exact ⟨k1, Int.le_refl _, k2.trans hnT, hdT.set hi hst _, fun _ => hlT.set q3⟩
  · rw [if_neg (by rw [he]; decide)]
    exact ⟨hb, h3, rfl, hd, fun h => absurd he h⟩
theorem be_ok {t : TM} (ht : TOk t) {n w : Int} (e : JE) (j : Nat) (he : EOk t e) (hl : ∀ p ∈ e.till, ¬ p.2 < n) (hj : hasW e.till w = some j) : EOk t (beE t n w e) ∧ (beE t n w e).name = e.name ∧ ∀ p ∈ (beE t n w e).till, ¬ p.2 < n := by
  obtain ⟨hjl, hjw⟩ := hasW_some hj
  have e1 : (beE t n w e).till = e.till.set j (w, n + t.last) := by unfold beE; simp only [hj]
  have hnn : e.till ≠ [] := fun h0 => by rw [h0] at hjl; cases hjl
  refine ⟨⟨⟨?_, he.t0, he.t1, fun _ => he.ho hnn, ?_⟩, fun _ => ?_⟩, rfl, fun p hp => ?_⟩
  · rw [e1, List.length_set]; exact he.tw
  · rw [e1, List.map_set]
    have : (e.till.map Prod.fst).set j w = e.till.map Prod.fst := by
      apply List.ext_getElem (by simp)
      intro k k1 k2
      rw [List.getElem_set]
      split
      · rename_i hk; subst hk; simp [hjw]
      · rfl
    show ((e.till.map Prod.fst).set j w).Nodup
    rw [this]; exact he.tk
  · rw [e1]; intro h0
    have := congrArg List.length h0
    rw [List.length_set] at this
    simp at this; exact hnn this
  · rw [e1] at hp
    rcases List.mem_or_eq_of_mem_set hp with hp | rfl
    · exact hl p hp
    · have := ht.l1
      show ¬ n + t.last < n
      omega
theorem dn_ok {t : TM} {n w : Int} (good : Bool) (e : JE) (j : Nat) (he : EOk t e) (hl : ∀ p ∈ e.till, ¬ p.2 < n) (hj : hasW e.till w = some j) : EOk t (dnE t w good e) ∧ (dnE t w good e).name = e.name ∧ ∀ p ∈ (dnE t w good e).till, ¬ p.2 < n := by
  cases good with
  | true =>
    refine ⟨⟨⟨?_, he.t0, he.t1, fun h => absurd rfl h, .nil⟩, fun h => ?_⟩, rfl, fun p hp => by cases hp⟩
    · have := he.tw
      show ((0 : Nat) : Int) ≤ _
      omega
    · have h : (3 : Int) = 2 := h
      cases h
  | false =>
    have e1 : (dlE w e).till = e.till.eraseIdx j := by unfold dlE; simp only [hj]
    have hs : (dlE w e).till.Sublist e.till := by rw [e1]; exact List.eraseIdx_sublist ..
    have hw : EW t (dlE w e) := by
      refine ⟨?_, he.t0, he.t1, fun hn => he.ho fun h0 => hn ?_, he.tk.sublist (hs.map _)⟩
      · have := hs.length_le; have := he.tw; omega
      · rw [h0] at hs; exact List.sublist_nil.1 hs
    obtain ⟨f1, f2, f3, f4, f5⟩ := freeE_jid t.tries (dlE w e)
    refine ⟨hw.free, f3, fun p hp => ?_⟩
    have hp : p ∈ (freeE t.tries (dlE w e)).till := hp
    rw [f4] at hp
    exact hl p (hs.subset hp)
theorem dn_done {t : TM} {now n w : Int} {s : Nm} {dn : List Nm} {es : List JE} (h0 : codeS (actS (dnE t w true) t now n w s es) = 0) (ha : Aft t n dn es (actS (dnE t w true) t now n w s es)) : DnOk (dn ++ [s]) (esS (actS (dnE t w true) t now n w s es)) := fun x hx => by
  rcases List.mem_append.1 hx with hx | hx
  · exact ha.dn x hx
  have hx : x = s := by simpa using hx
  subst hx
  unfold actS at h0 ⊢
  by_cases he : errT n now [w] = 0
  · rw [if_pos he] at h0 ⊢
    generalize es.map (tickE t.tries n) = T at *
    cases hf : fndL T x w with
    | none => rw [hf] at h0; cases h0
    | some i =>
      obtain ⟨hi, j, hj, hat⟩ := fndL_some hf
      obtain ⟨_, hnm⟩ := atL_some hat
      simp only [List.getElem?_eq_getElem hi]
      refine ⟨dnE t w true T[i], ?_, hnm, rfl⟩
      show _ ∈ T.set i (dnE t w true T[i])
      have : (T.set i (dnE t w true T[i]))[i]'(by rw [List.length_set]; exact hi) = dnE t w true T[i] := List.getElem_set_self ..
      exact List.mem_iff_getElem.2 ⟨i, by rw [List.length_set]; exact hi, this⟩
  · rw [if_neg he] at h0
    exact absurd h0 he
end Go.Proofs.Ytopdpbcfgjijaaa
end
section
set_option linter.unusedVariables false
set_option linter.unusedSimpArgs false
set_option maxRecDepth 20000
namespace Go.Proofs.Ytopdpbcfgjijaaa
open Go Go.Ab
def chooseN (c : Int) (n : Nat) : Nat := (if c < 0 then (-(c + 1)).toNat else c.toNat) % n
theorem choose_ok (c : Int) (n : Nat) (hc : -9223372036854775808 ≤ c ∧ c ≤ 9223372036854775807) (hn : 0 < n) (hn2 : n ≤ 9223372036854775807) : Calc cx 9 [.int .i64 c, .int .i64 n] (.int .i64 (chooseN c n)) :=
  pure_intro (fun a w => Try.call9 a w) Try.func9 rfl Try.ntmps9 rfl .int fun B => by
    refine ab 1000 rfl trivial ?_
    have hmod : ∀ m : Nat, ((m : Int).tmod n) = ((m % n : Nat) : Int) := fun m => rfl
    refine S_dec rfl (fun h => ?_) (fun h => ?_)
    · have hw : IntKind.i64.wrap (0 - IntKind.i64.wrap (c + 1)) = (((-(c + 1)).toNat : Nat) : Int) := by
        have e1 : IntKind.i64.wrap (c + 1) = c + 1 := IntWalk.i64_in _ ⟨by omega, by omega⟩
        rw [e1]
        exact w64 (by omega) (by omega)
      refine ab 1000 rfl ⟨by omega, trivial⟩ ?_
      refine S_retc .int rfl trivial ?_
      show AV.int .i64 ((IntKind.i64.wrap (0 - IntKind.i64.wrap (c + 1))).tmod n) = _
      rw [hw, hmod, chooseN, if_pos h]
    · refine ab 1000 rfl ⟨by omega, trivial⟩ ?_
      refine S_retc .int rfl trivial ?_
      obtain ⟨m, rfl⟩ := Int.eq_ofNat_of_zero_le (by omega : 0 ≤ c)
      show AV.int .i64 ((m : Int).tmod n) = _
      rw [hmod, chooseN, if_neg h, Int.toNat_natCast]
theorem chooseN_lt (c : Int) {n : Nat} (hn : 0 < n) : chooseN c n < n := Nat.mod_lt _ hn
end Go.Proofs.Ytopdpbcfgjijaaa
end
section
set_option linter.unusedVariables false
set_option linter.unusedSimpArgs false
set_option maxRecDepth 20000
namespace Go.Proofs.Ytopdpbcfgjijaaa
open Go Go.Ab
theorem HasText_ok {st fl : Bool} (l : List (List UInt8)) (s : List UInt8) (hl : l.length ≤ 9223372036854775806) : Calc cx 25 [.sl st fl 1 (texts l), .str s] (.bool (l.contains s)) :=
  pure_intro (fun a w => Try.call25 a w) Try.func25 rfl Try.ntmps25 rfl .bool fun B => by
    have htl := texts_len l
    refine ab 1000 rfl trivial ?_
    refine S_while (α := Nat) (fun i => [(0, .sl st fl 1 (texts l)), (1, .str s), (5, .int .i64 (i : Nat))]) (fun _ => []) (fun i => i ≤ l.length ∧ s ∉ l.take i) (fun i => l.length - i) 0
      ⟨Nat.zero_le _, by simp⟩ (.cons rfl (.cons rfl (.cons rfl (.nil _)))) rfl ?_
    rintro i ⟨hi, hN⟩
    have hi : i ≤ l.length := hi
    refine ab 1000 rfl trivial ?_
    refine S_dec rfl (fun hlt => ?_) (fun hlt => ?_)
    · have hil : i < l.length := by have : (i : Int) < ((texts l).length : Nat) := hlt; omega
      refine ab 1000 rfl trivial ?_
      refine S_index (.str l[i]) rfl rfl rfl ⟨rfl, by omega, by rw [Int.toNat_natCast]; exact texts_get hil, trivial⟩ ?_
      refine ab 1000 rfl trivial ?_
      refine S_cond rfl (fun h => ?_) (fun h => ?_)
      · have h : l[i] = s := by simpa using (show (l[i] == s) = true from h)
        refine ab 1000 rfl trivial ?_
        refine S_retc .bool rfl trivial ?_
        rw [List.contains_iff_mem.2 (by rw [← h]; exact List.getElem_mem hil)]; rfl
      · have h : l[i] ≠ s := by simpa using (show (l[i] == s) = false from h)
        refine ab 1000 rfl trivial ?_
        refine S_round (i + 1) (by show l.length - (i + 1) < l.length - i; omega) ⟨hil, fun hm => ?_⟩ (.cons rfl (.cons rfl (.cons (ai64 rfl (by omega)) (.nil _)))) rfl
        rw [List.take_succ_eq_append_getElem hil] at hm
        rcases List.mem_append.1 hm with hm | hm
        · exact hN hm
        · simp at hm; exact h hm.symm
    · have hil : i = l.length := by have : ¬ (i : Int) < ((texts l).length : Nat) := hlt; omega
      rw [hil, List.take_length] at hN
      refine ab 1000 rfl trivial ?_
      refine S_retc .bool rfl trivial ?_
      have : l.contains s = false := by
        cases h : l.contains s with
        | false => rfl
        | true => exact absurd (List.contains_iff_mem.1 h) hN
      rw [this]; rfl
end Go.Proofs.Ytopdpbcfgjijaaa
end
section
set_option linter.unusedVariables false
set_option linter.unusedSimpArgs false
set_option maxRecDepth 20000
set_option maxHeartbeats 4000000
namespace Go.Proofs.Ytopdpbcfgjijaaa
open Go Go.Ab
def newL (σ : Heap) (t : TM) : Heap := σ ++ [termB t, (0, some (.map [] none)), (0, some (bookB t 0 (σ.length + 1)))]
theorem newL_at (σ : Heap) (t : TM) (hal : Alive σ) : LAt (newL σ t) (σ.length + 2) (σ.length + 1) none t 0 [] := by
  have e : newL σ t = ((σ ++ [termB t]) ++ [(0, some (.map [] none))]) ++ [(0, some (bookB t 0 (σ.length + 1)))] := by unfold newL; simp
  refine ⟨?_, ?_, ?_, (fun e he => by cases he), (fun e he => by cases he), ?_⟩
  · rw [e]; exact Alive.app (Alive.app (Alive.app hal _ _) _ _) _ _
  · unfold newL
    rw [List.getElem?_append_right (by omega)]
    rw [show σ.length + 2 - σ.length = 2 by omega]; rfl
  · unfold newL
    rw [List.getElem?_append_right (by omega)]
    rw [show σ.length + 1 - σ.length = 1 by omega]; rfl
  · unfold idsL idsJ; simp
def sA : Nm := [97]
theorem add_A : addE [] sA = 0 := by decide
def jA (st tried : Int) (till : List (Int × Int)) (m : Nat) : JE := ⟨sA, st, tried, till, m + 1, m⟩
theorem bd_A {t : TM} (h1 : 1 ≤ t.last) (h2 : t.last ≤ 1000000000) (st tried : Int) (ht : 0 ≤ tried ∧ tried ≤ 1000) (till : List (Int × Int)) (hn : (till.map Prod.fst).Nodup) (m : Nat) : BdOk t [jA st tried till m] :=
  ⟨h1, h2, Nat.le_add_left 1 999, fun e he => by rw [List.mem_singleton.1 he]; exact ht, fun e he => by rw [List.mem_singleton.1 he]; exact hn⟩
theorem errT_0 {n now : Int} (h1 : 0 ≤ n) (h2 : n ≤ 1000000000) (h3 : now ≤ n) : errT n now [] = 0 := by
  unfold errT
  rw [if_neg (by decide), if_neg, if_neg (by omega)]
  unfold witB
  simp [h1, h2]
theorem grant_A (t : TM) (h1 : 1 ≤ t.tries) (h2 : 1 ≤ t.twins) (m : Nat) : grantS t 0 0 1 sA [newJ sA m] = (0, 0, [jA 2 1 [(1, t.last)] m]) := by
  unfold grantS
  rw [if_pos (by decide)]
  have e1 : [newJ sA m].map (tickE t.tries 0) = [newJ sA m] := rfl
  rw [e1]
  have e2 : atL [newJ sA m] sA = some 0 := rfl
  rw [e2]
  have e3 : [newJ sA m][0]? = some (newJ sA m) := rfl
  simp only [e3]
  have e4 : grC t 1 (newJ sA m) = 0 := by
    unfold grC
    have a1 : ¬ ((newJ sA m).st = 3 ∨ (newJ sA m).st = 4) := show ¬ ((1 : Int) = 3 ∨ (1 : Int) = 4) by decide
    have a2 : ¬ ((hasW (newJ sA m).till 1).isSome = true) := show ¬ ((hasW [] 1).isSome = true) by decide
    rw [if_neg a1, if_neg a2, if_neg]
    rintro (h | h)
    · have : ((0 : Nat) : Int) = t.twins := h
      omega
    · have : (0 : Int) = t.tries := h
      omega
  rw [if_pos e4]
  show ((0 : Int), (0 : Int), [grE t 0 1 (newJ sA m)]) = _
  have e5 : grE t 0 1 (newJ sA m) = jA 2 1 [(1, 0 + t.last)] m := rfl
  rw [e5, Int.zero_add]
theorem leaseBegun_ok : Calc cx 6 [] (.bool true) :=
  pure_intro (fun a w => Try.call6 a w) Try.func6 rfl Try.ntmps6 rfl .bool fun B => by
    have hN := New_ok [] ⟨5, 2, 1⟩ (fun e he => by cases he) (by decide)
    have hL : LAt (newL [] ⟨5, 2, 1⟩) 2 1 none ⟨5, 2, 1⟩ 0 [] := newL_at [] _ (fun e he => by cases he)
    refine pao [.f (.tup [.ptr 2 0 0, .int .i64 0]) (fun s => s ++ [termB ⟨5, 2, 1⟩, (0, some (.map [] none)), (0, some (bookB ⟨5, 2, 1⟩ 0 1))]), .b false, .b false] rfl ?_ ?_
    · (repeat' with_reducible apply AllP_cons) <;> try exact aC
    refine S_heap (newL [] ⟨5, 2, 1⟩) rfl ?_
    have hA := Add_ok (newL [] ⟨5, 2, 1⟩) 2 1 ⟨5, 2, 1⟩ 0 [] sA hL (by decide) (by decide) add_A
    refine S_call rfl rfl rfl hA (fun v s hR => ?_) (fun v s hR => by obtain ⟨hR, _⟩ := hR; cases hR)
    obtain ⟨hR, hL1, _⟩ := hR
    cases hR
    have hL1 : LAt s 2 1 none ⟨5, 2, 1⟩ 0 [newJ sA 3] := hL1
    have hG := Grant_ok s 2 1 ⟨5, 2, 1⟩ 0 0 1 [newJ sA 3] sA hL1 (bd_A (by decide) (by decide) 1 0 (by decide) [] (by decide) 3)
    rw [grant_A ⟨5, 2, 1⟩ (by decide) (by decide)] at hG
    refine pao [] rfl ?_ ?_
    · (repeat' with_reducible apply AllP_cons) <;> try exact aC
    refine S_call rfl rfl rfl hG (fun v s2 hR => ?_) (fun v s hR => by obtain ⟨hR, _⟩ := hR; cases hR)
    obtain ⟨hR, hL2, _⟩ := hR
    cases hR
    have hL2 : LAt s2 2 1 none ⟨5, 2, 1⟩ 0 [jA 2 1 [(1, 5)] 3] := hL2
    have hS := State_ok s2 2 1 ⟨5, 2, 1⟩ 0 _ sA hL2
    have hS : CallOk cx 21 [.ptr 2 0 0, .str sA] s2 (fun o s => o = .ret (.tup [.int .i64 2, .int .i64 1]) ∧ s = s2) := hS
    refine pao [.k (.tup [.int .i64 2, .int .i64 1]), .b true, .b true, .b true] rfl ?_ ?_
    · (repeat' with_reducible apply AllP_cons) <;> try exact aC
    exact S_ret ⟨_, _, rfl, trivial, _, rfl, .refl .bool⟩
end Go.Proofs.Ytopdpbcfgjijaaa
end
section
set_option linter.unusedVariables false
set_option linter.unusedSimpArgs false
set_option maxRecDepth 20000
set_option maxHeartbeats 4000000
namespace Go.Proofs.Ytopdpbcfgjijaaa
open Go Go.Ab
structure CL where
  kind : Int
  wk : Int
  n : Int
  job : Nm
  good : Bool
def CL.wf (c : CL) : Prop := (-9223372036854775808 ≤ c.kind ∧ c.kind ≤ 9223372036854775807) ∧ (-9223372036854775808 ≤ c.wk ∧ c.wk ≤ 9223372036854775807) ∧ (-9223372036854775808 ≤ c.n ∧ c.n ≤ 9223372036854775807)
def CL.cells (c : CL) : List AV := [.int .i64 c.kind, .int .i64 c.wk, .int .i64 c.n, .str c.job, .bool c.good]
def callA (c : CL) : AV := .agg c.cells
def callsA (l : List CL) : List AV := l.map callA
def callB (c : CL) : Nat × Option Box := (0, some (.cells c.cells ⟨false, some 38⟩))
theorem callsA_len (l : List CL) : (callsA l).length = l.length := by simp [callsA]
structure LI (t : TM) (σ : Heap) (es : List JE) (bn n : Int) (dn : List Nm) : Prop where
  la : LAt σ 3 2 none t bn es
  b : BOk t es
  le : bn ≤ n
  c0 : σ[0]? = some (termB t)
  c4 : σ[4]? = some (es.length, some (.cells (texts (es.map JE.name)) ⟨false, none⟩))
  c5 : σ[5]? = some (dn.length, some (.cells (texts dn) ⟨false, none⟩))
  no : ∀ id, id = 0 ∨ id = 4 ∨ id = 5 → ¬ OwnL 3 2 es id
  dk : DnOk dn es
theorem LI.app {t : TM} {σ : Heap} {es : List JE} {bn n : Int} {dn : List Nm} (h : LI t σ es bn n dn) (v : Nat) (x : Box) : LI t (σ ++ [(v, some x)]) es bn n dn :=
  ⟨h.la.app v x, h.b, h.le, app_get h.c0, app_get h.c4, app_get h.c5, h.no, h.dk⟩
theorem LI.noK {t : TM} {σ s : Heap} {es es' : List JE} {bn n : Int} {dn : List Nm} (h : LI t σ es bn n dn) (hk : QKeep σ s (OwnL 3 2 es) (OwnL 3 2 es')) : (∀ id, id = 0 ∨ id = 4 ∨ id = 5 → ¬ OwnL 3 2 es' id) ∧ ∀ id, id = 0 ∨ id = 4 ∨ id = 5 → s[id]? = σ[id]? := by
  have h5 := lt_of_get h.c5
  refine ⟨fun id hid ho => ?_, fun id hid => hk.same id (by omega) (h.no id hid)⟩
  rcases hk.new id ho with h1 | h1
  · exact h.no id hid h1
  · omega
theorem LI.step {t : TM} {σ s : Heap} {es : List JE} {bn n : Int} {dn : List Nm} (h : LI t σ es bn n dn) {r : Int × Int × List JE} (hl : LAt s 3 2 none t (nowS r) (esS r)) (hk : QKeep σ s (OwnL 3 2 es) (OwnL 3 2 (esS r))) (ha : Aft t n dn es r) : LI t s (esS r) (nowS r) n dn := by
  obtain ⟨k1, k2⟩ := h.noK hk
  have hle : (esS r).length = es.length := by have := congrArg List.length ha.nm; simpa using this
  exact ⟨hl, ha.b, ha.nw, (k2 0 (.inl rfl)).trans h.c0, by rw [k2 4 (.inr (.inl rfl)), h.c4, ha.nm, hle], (k2 5 (.inr (.inr rfl))).trans h.c5, k1, ha.dn⟩
theorem LI.mono {t : TM} {σ : Heap} {es : List JE} {bn n n' : Int} {dn : List Nm} (h : LI t σ es bn n dn) (hn : n ≤ n') : LI t σ es bn n' dn := ⟨h.la, h.b, by have := h.le; omega, h.c0, h.c4, h.c5, h.no, h.dk⟩
theorem LI.time {t : TM} {σ s : Heap} {es : List JE} {bn n : Int} {dn : List Nm} (h : LI t σ es bn n dn) (hl : LAt s 3 2 none t n (es.map (tickE t.tries n))) (hk : QKeep σ s (OwnL 3 2 es) (OwnL 3 2 es)) : LI t s (es.map (tickE t.tries n)) n n dn ∧ LvN n (es.map (tickE t.tries n)) := by
  have ho : OwnL 3 2 (es.map (tickE t.tries n)) = OwnL 3 2 es := own_map _ fun e => ⟨(tickE_jid _ _ e).1, (tickE_jid _ _ e).2.1⟩
  have ha : Aft t n dn es (0, n, es.map (tickE t.tries n)) := ⟨h.b.tick n, Int.le_refl _, names_tick _ _ _, h.dk.tick _ _, fun _ => LvN.tick _ _ _⟩
  exact ⟨h.step (r := (0, n, es.map (tickE t.tries n))) hl (by show QKeep σ s _ (OwnL 3 2 (es.map (tickE t.tries n))); rw [ho]; exact hk) ha, LvN.tick _ _ _⟩
theorem LI.done {t : TM} {σ : Heap} {es : List JE} {bn n : Int} {dn : List Nm} (h : LI t σ es bn n dn) (s : Nm) (hd : DnOk (dn ++ [s]) es) : LI t (σ.set 5 (dn.length + 1, some (.cells (texts (dn ++ [s])) ⟨false, none⟩))) es bn n (dn ++ [s]) := by
  refine ⟨h.la.mono (Alive.set h.la.al _ _ _) fun id ho => set_ne fun e => h.no id (.inr (.inr e)) ho, h.b, h.le, by rw [set_ne (by decide)]; exact h.c0, by rw [set_ne (by decide)]; exact h.c4, ?_, h.no, hd⟩
  rw [set_eq h.c5, List.length_append, List.length_singleton]
theorem LI.add {t : TM} {σ s : Heap} {es : List JE} {bn n : Int} {dn : List Nm} {name : Nm} {m : Nat} (h : LI t σ es bn n dn) (ht : TOk t) (he : addE es name = 0) (hl : LAt s 3 2 none t bn (es ++ [newJ name m])) (hk : QKeep σ s (OwnL 3 2 es) (OwnL 3 2 (es ++ [newJ name m]))) :
    LI t (s.set 4 (es.length + 1, some (.cells (texts (es.map JE.name ++ [name])) ⟨false, none⟩))) (es ++ [newJ name m]) bn n dn ∧ s[4]? = some (es.length, some (.cells (texts (es.map JE.name)) ⟨false, none⟩)) := by
  obtain ⟨k1, k2⟩ := h.noK hk
  have h4 : s[4]? = some (es.length, some (.cells (texts (es.map JE.name)) ⟨false, none⟩)) := (k2 4 (.inr (.inl rfl))).trans h.c4
  unfold addE at he
  by_cases g1 : isName name = false
  · rw [if_pos g1] at he; cases he
  rw [if_neg g1] at he
  by_cases g2 : (atL es name).isSome = true
  · rw [if_pos g2] at he; cases he
  rw [if_neg g2] at he
  by_cases g3 : es.length = 200
  · rw [if_pos g3] at he; cases he
  have hnm : name ∉ es.map JE.name := fun hm => by
    obtain ⟨x, hx, e⟩ := List.mem_map.1 hm
    cases ha : atL es name with
    | some i => rw [ha] at g2; exact g2 rfl
    | none =>
      have := List.findIdx?_eq_none_iff.1 ha x hx
      simp [e] at this
  have hb : BOk t (es ++ [newJ name m]) := by
    refine ⟨?_, by rw [List.length_append, List.length_singleton]; have := h.b.el; omega, fun e he => ?_⟩
    · rw [List.map_append]
      refine List.nodup_append.2 ⟨h.b.nn, by simp, fun x hx y hy => ?_⟩
      have : y = name := by simpa [newJ] using hy
      subst this
      exact fun e => hnm (e ▸ hx)
    · rcases List.mem_append.1 he with he | he
      · exact h.b.eo e he
      · rw [List.mem_singleton.1 he]
        refine ⟨⟨?_, Int.le_refl _, ?_, fun h => absurd rfl h, .nil⟩, fun h => ?_⟩
        · have := ht.w1
          show ((0 : Nat) : Int) ≤ _
          omega
        · have := ht.r1
          show (0 : Int) ≤ _
          omega
        · have h : (1 : Int) = 2 := h
          cases h
  refine ⟨⟨hl.mono (Alive.set hl.al _ _ _) fun id ho => set_ne fun e => k1 id (.inr (.inl e)) ho, hb, h.le, ?_, ?_, ?_, k1, fun x hx => ?_⟩, h4⟩
  · rw [set_ne (by decide), k2 0 (.inl rfl)]; exact h.c0
  · rw [set_eq h4, List.length_append, List.length_singleton, List.map_append]; rfl
  · rw [set_ne (by decide), k2 5 (.inr (.inr rfl))]; exact h.c5
  · obtain ⟨e, he, h1, h2⟩ := h.dk x hx
    exact ⟨e, List.mem_append_left _ he, h1, h2⟩
theorem st_of {t : TM} {es : List JE} (hb : BOk t es) {e : JE} (he : e ∈ es) : stL es e.name = (e.st, e.tried) := by
  obtain ⟨i, hi, rfl⟩ := List.getElem_of_mem he
  have ha : atL es es[i].name = some i := by
    unfold atL
    rw [List.findIdx?_eq_some_iff_getElem]
    refine ⟨hi, by simp, fun j hj => ?_⟩
    have hj2 : j < es.length := by omega
    simp only [beq_iff_eq]
    intro e
    have := nodup_inj hb.nn (i := j) (k := i) (by simpa using hj2) (by simpa using hi) (by simpa using e)
    omega
  unfold stL
  rw [ha]
  simp only [List.getElem?_eq_getElem hi]
theorem held_of {t : TM} {es : List JE} (hb : BOk t es) {x : LE} (hx : x ∈ allL es) : ∃ e ∈ es, e.name = x.job ∧ (x.wk, x.tl) ∈ e.till ∧ stL es x.job = (e.st, e.tried) := by
  obtain ⟨e, he, hx⟩ := List.mem_flatMap.1 hx
  obtain ⟨p, hp, rfl⟩ := List.mem_map.1 hx
  refine ⟨e, he, rfl, hp, ?_⟩
  exact st_of hb he
theorem many_of : ∀ {es : List JE}, (es.map JE.name).Nodup → ∀ e ∈ es, (allL es).countP (fun x => x.job == e.name) = e.till.length
  | [], _, e, he => by cases he
  | y :: es, hn, e, he => by
    obtain ⟨h1, h2⟩ := List.nodup_cons.1 (show (y.name :: es.map JE.name).Nodup from hn)
    have e1 : allL (y :: es) = leJ y ++ allL es := rfl
    have hz : ∀ z : JE, (leJ z).countP (fun x => x.job == e.name) = if z.name = e.name then z.till.length else 0 := fun z => by
      unfold leJ
      rw [List.countP_map]
      split
      · rename_i hne
        rw [List.countP_eq_length.2]
        intro p _
        show (z.name == e.name) = true
        simp [hne]
      · rename_i hne
        rw [List.countP_eq_zero.2]
        intro p _
        show ¬ (z.name == e.name) = true
        simp [hne]
    rw [e1, List.countP_append, hz]
    rcases List.mem_cons.1 he with rfl | he
    · rw [if_pos rfl]
      have : (allL es).countP (fun x => x.job == e.name) = 0 := by
        rw [List.countP_eq_zero]
        intro x hx
        obtain ⟨z, hz', hx⟩ := List.mem_flatMap.1 hx
        obtain ⟨p, _, rfl⟩ := List.mem_map.1 hx
        show ¬ (z.name == e.name) = true
        intro h
        have : z.name = e.name := by simpa using h
        exact h1 (this ▸ List.mem_map_of_mem hz')
      omega
    · have hne : ¬ y.name = e.name := fun h => h1 (by rw [h]; exact List.mem_map_of_mem he)
      rw [if_neg hne, many_of h2 e he]
      omega
end Go.Proofs.Ytopdpbcfgjijaaa
end
section
set_option linter.unusedVariables false
set_option linter.unusedSimpArgs false
namespace Go.Ab
open Go Go.WideShapes
def laidB (P : Program) : List Field → Nat → Option Nat
  | [], o => some o
  | f :: r, o => match Nat.beq f.offset o with
    | true => laidB P r (o + P.cellsOf f.type)
    | false => none
mutual
def plainB (P : Program) : Nat → TypeId → Bool
  | 0, _ => false
  | n + 1, t => match P.underlying t with
    | some .bool => Nat.beq (P.cellsOf t) 1
    | some (.int _) => Nat.beq (P.cellsOf t) 1
    | some .string => Nat.beq (P.cellsOf t) 1
    | some (.slice e) => match Nat.beq (P.cellsOf t) 1, Nat.beq (P.cellsOf e) 0 with
      | true, false => plainB P n e
      | _, _ => false
    | some (.struct fs) => match laidB P fs.toList 0 with
      | some m => match Nat.beq (P.cellsOf t) m with
        | true => plainAll P n fs.toList
        | false => false
      | none => false
    | _ => false
def plainAll (P : Program) : Nat → List Field → Bool
  | 0, _ => false
  | n + 1, fs => match fs with
    | [] => true
    | f :: r => match plainB P n f.type with
      | true => plainAll P n r
      | false => false
end
inductive RdD (P : Program) {H : Type} : TypeId → DataW H → AV → Prop
  | bool {t b} (ht : P.underlying t = some .bool) : RdD P t (.lit (.bool b)) (.bool b)
  | int {t k n} (ht : P.underlying t = some (.int k)) (hw : (Lit.int k n).wf = true) : RdD P t (.lit (.int k n)) (.int k n)
  | str {t s} (ht : P.underlying t = some .string) (hs : s.length ≤ maxLen) : RdD P t (.lit (.string s)) (.str s)
  | nils {t e} (ht : P.underlying t = some (.slice e)) : RdD P t .nil (.sl true false (P.cellsOf e) [])
  | sl {t e} {ds rest : List (DataW H)} {xs : List AV} (ht : P.underlying t = some (.slice e)) (hl : xs.length = ds.length) (hm : xs.length ≤ maxLen) (h : ∀ i (h1 : i < ds.length) (h2 : i < xs.length), RdD P e ds[i] xs[i]) : RdD P t (.slice ds rest) (.sl true false (P.cellsOf e) xs)
  | st {t} {fs : Array Field} {ds : List (DataW H)} {xs : List AV} (ht : P.underlying t = some (.struct fs)) (hd : ds.length = fs.size) (hx : xs.length = fs.size) (h : ∀ i (h1 : i < ds.length) (h2 : i < xs.length) (h3 : i < fs.size), RdD P fs[i].type ds[i] xs[i]) : RdD P t (.agg ds) (.agg (xs.flatMap AV.cells))
def CellsV (w : World) (cs : List Value) (az : List AV) : Prop := cs.length = az.length ∧ ∀ i (h1 : i < cs.length) (h2 : i < az.length), VRel (Rl.old w) w cs[i] az[i]
theorem CellsV.one {w : World} {v : Value} {a : AV} (h : VRel (Rl.old w) w v a) : CellsV w [v] [a] := by
  refine ⟨rfl, fun i h1 h2 => ?_⟩
  obtain rfl : i = 0 := by simpa using h1
  exact h
theorem laidB_flat {P : Program} : ∀ (fs : List Field) (o m : Nat) (w : World) (cs : List Value) (xs : List AV), laidB P fs o = some m → xs.length = fs.length → (∀ i (h1 : i < fs.length) (h2 : i < xs.length), CellsV w ((cs.drop fs[i].offset).take (P.cellsOf fs[i].type)) xs[i].cells ∧ xs[i].cells.length = P.cellsOf fs[i].type) →
    cs.length = m → o ≤ m ∧ CellsV w (cs.drop o) (xs.flatMap AV.cells)
  | [], o, m, w, cs, xs, h, hl, hc, hm => by
    simp only [laidB, Option.some.injEq] at h
    obtain rfl : xs = [] := List.eq_nil_of_length_eq_zero hl
    subst h
    refine ⟨Nat.le_refl _, ?_⟩
    rw [List.drop_of_length_le (by omega)]
    exact ⟨rfl, fun i h => absurd h (by simp)⟩
  | f :: r, o, m, w, cs, xs, h, hl, hc, hm => by
    rw [laidB] at h
    split at h
    case h_2 => cases h
    rename_i hb
    have ho := Nat.eq_of_beq_eq_true hb
    obtain ⟨x, xs, rfl⟩ : ∃ x xs', xs = x :: xs' := by
      cases xs with
      | nil => simp at hl
      | cons x xs => exact ⟨x, xs, rfl⟩
    have h0 := hc 0 (by simp) (by simp)
    simp only [List.getElem_cons_zero] at h0
    obtain ⟨h1, h2⟩ := laidB_flat r (o + P.cellsOf f.type) m w cs xs h (by simpa using hl) (fun i k1 k2 => hc (i + 1) (Nat.succ_lt_succ k1) (Nat.succ_lt_succ k2)) hm
    refine ⟨by omega, ?_⟩
    obtain ⟨⟨e1, e2⟩, e3⟩ := h0
    rw [ho] at e1 e2
    rw [List.flatMap_cons]
    have hsplit : cs.drop o = (cs.drop o).take (P.cellsOf f.type) ++ cs.drop (o + P.cellsOf f.type) := by
      rw [← List.drop_drop, List.take_append_drop]
    rw [hsplit]
    refine ⟨by rw [List.length_append, List.length_append, e1, h2.1], fun i k1 k2 => ?_⟩
    by_cases hi : i < x.cells.length
    · rw [List.getElem_append_left (by omega), List.getElem_append_left hi]
      exact e2 i (by omega) hi
    · rw [List.getElem_append_right (by omega), List.getElem_append_right (by omega)]
      have : i - ((cs.drop o).take (P.cellsOf f.type)).length = i - x.cells.length := by omega
      simp only [this]
      exact h2.2 _ _ _
theorem read_cells {H : Type} {enc : TypeId × Value → H} {P : Program} {W : World} : ∀ (fuel n : Nat) (t : TypeId) (cs : List Value) (d : DataW H) (ps : List MemPlace), DataW.trod enc P W 0 (fun _ => true) true fuel t cs = some (d, ps) → plainB P n t = true →
    ∃ a, RdD P t d a ∧ a.cells.length = P.cellsOf t ∧ CellsV W cs a.cells ∧ (∀ v, (∃ xs, v = .agg xs ∧ xs.toList = cs ∧ aggT P t = some true) ∨ ([v] = cs ∧ aggT P t = some false) → VRel (Rl.old W) W v a) := by
  intro fuel
  induction fuel with
  | zero => intro n t cs d ps h _; simp [DataW.trod] at h
  | succ fuel ih =>
    intro n t cs d ps h hp
    have hall : ∀ (n : Nat) (fs : List Field), plainAll P n fs = true → ∀ i (hi : i < fs.length), ∃ m, plainB P m fs[i].type = true := by
      intro n
      induction n with
      | zero => intro fs h; simp [plainAll] at h
      | succ n ihn =>
        intro fs h i hi
        cases fs with
        | nil => simp at hi
        | cons f r =>
          rw [plainAll] at h
          split at h
          · rename_i hb
            cases i with
            | zero => exact ⟨n, hb⟩
            | succ i => exact ihn r h i (by simpa using hi)
          · cases h
    cases n with
    | zero => simp [plainB] at hp
    | succ n =>
      rw [plainB] at hp
      split at hp
      ·
        rename_i ht
        obtain ⟨b, rfl, hx⟩ := DataW.trod_bool ht h
        cases hx
        refine ⟨.bool b, .bool ht, (Nat.eq_of_beq_eq_true hp).symm, .one .bool, ?_⟩
        rintro v (⟨xs, rfl, h1, h2⟩ | ⟨h1, h2⟩)
        · simp [aggT, ht] at h2
        · cases h1; exact .bool
      · rename_i k ht
        obtain ⟨m, rfl, hx, hw⟩ := DataW.trod_int ht h
        cases hx
        refine ⟨.int _ m, .int ht hw, (Nat.eq_of_beq_eq_true hp).symm, .one .int, ?_⟩
        rintro v (⟨xs, rfl, h1, h2⟩ | ⟨h1, h2⟩)
        · simp [aggT, ht] at h2
        · cases h1; exact .int
      · rename_i ht
        obtain ⟨s, rfl, hx, hw⟩ := DataW.trod_string ht h
        cases hx
        refine ⟨.str s.data.toList, .str ht (by rw [Array.length_toList]; exact hw), (Nat.eq_of_beq_eq_true hp).symm, .one (.str rfl), ?_⟩
        rintro v (⟨xs, rfl, h1, h2⟩ | ⟨h1, h2⟩)
        · simp [aggT, ht] at h2
        · cases h1; exact .str rfl
      ·
        rename_i e ht
        split at hp
        case h_2 => cases hp
        rename_i hc1 hc0
        have hc1 := Nat.eq_of_beq_eq_true hc1
        have hpos : 0 < P.cellsOf e := by
          rcases Nat.eq_zero_or_pos (P.cellsOf e) with h0 | h0
          · rw [h0] at hc0; cases hc0
          · exact h0
        rcases DataW.trod_slice ht h with ⟨rfl, hx⟩ | ⟨a, len, cap, elems, rest, fu, hfu, rfl, hx, _, hl, hm, hlen, hel, hsp, hns⟩
        · cases hx
          refine ⟨_, .nils ht, hc1.symm, .one (.sl0 (fun h => by cases h)), ?_⟩
          rintro v (⟨xs, rfl, h1, h2⟩ | ⟨h1, h2⟩)
          · simp [aggT, ht] at h2
          · cases h1; exact .sl0 (fun h => by cases h)
        · cases hx
          obtain rfl : fuel = fu := by omega
          have each : ∀ i (hi : i < elems.length), ∃ x, RdD P e (elems[i]).1 x ∧ x.cells.length = P.cellsOf e ∧ ∃ ecs : List Value, W.cells? 0 (a.add (i * P.cellsOf e)) (P.cellsOf e) = some ecs ∧ CellsV W ecs x.cells := by
            intro i hi
            have h1 := hel i (by omega)
            rw [List.getElem?_eq_getElem hi, Option.bind_eq_some_iff] at h1
            obtain ⟨ecs, h2, h3⟩ := h1
            obtain ⟨x, k1, k2, k3, _⟩ := ih n e ecs (elems[i]).1 (elems[i]).2 h3 hp
            exact ⟨x, k1, k2, ecs, h2, k3⟩
          have : ∃ xs : List AV, xs.length = elems.length ∧ ∀ i (hi : i < elems.length) (hx : i < xs.length), RdD P e (elems[i]).1 xs[i] ∧ xs[i].cells.length = P.cellsOf e ∧ ∃ ecs : List Value, W.cells? 0 (a.add (i * P.cellsOf e)) (P.cellsOf e) = some ecs ∧ CellsV W ecs xs[i].cells := by
            refine ⟨(List.finRange elems.length).map fun i => Classical.choose (each i.1 i.2), by simp, fun i hi hx => ?_⟩
            simp only [List.getElem_map, List.getElem_finRange]
            exact Classical.choose_spec (each i hi)
          obtain ⟨xs, hxl, hxs⟩ := this
          have hv : VRel (Rl.old W) W (.slice (some a) len cap) (.sl true false (P.cellsOf e) xs) := by
            rcases Nat.eq_zero_or_pos len with h0 | h0
            · subst h0
              obtain rfl : xs = [] := List.eq_nil_of_length_eq_zero (by omega)
              exact .sl0 (fun h => by cases h)
            · obtain ⟨b, o, sp⟩ := a
              obtain ⟨_, _, ecs0, hc, _⟩ := hxs 0 (by omega) (by omega)
              obtain ⟨_, hcl, hcc⟩ := World.cells?_some hc
              have hcell0 := hcc 0 hpos
              rw [List.getElem?_eq_getElem (by omega)] at hcell0
              have hsp : sp = none := by
                cases sp with
                | none => rfl
                | some s =>
                  simp [Addr.add, World.cell?] at hcell0
                  split at hcell0 <;> cases hcell0
              subst hsp
              have hb : b < W.heap.size := by
                rw [Addr.add_lit] at hcell0
                rcases Nat.lt_or_ge b W.heap.size with h | h
                · exact h
                · simp [World.cell?, Addr.add, Array.getElem?_eq_none h] at hcell0
              have hcel : ∀ i, i < xs.length → ∀ j, j < P.cellsOf e → ∃ v, W.cell? ⟨b, o + i * P.cellsOf e + j, none⟩ = some v ∧ ∀ (hi : i < xs.length) (hj : j < (AV.cells xs[i]).length), VRel (Rl.old W) W v (AV.cells xs[i])[j] := by
                intro i hi j hj
                obtain ⟨_, hxc, ecs, hc, hcv⟩ := hxs i (by omega) hi
                obtain ⟨_, hcl, hcc⟩ := World.cells?_some hc
                have h1 := hcc j hj
                rw [List.getElem?_eq_getElem (by omega)] at h1
                rw [Addr.add_lit, Addr.add_lit] at h1
                refine ⟨ecs[j], h1, fun _ hj' => hcv.2 j _ hj'⟩
              refine .sl (by omega) hl (fun h => by cases h) hb (fun _ => hb) (fun x hx => ?_) (fun i j => (W.cell? ⟨b, o + i * P.cellsOf e + j, none⟩).getD undef) (fun i hi j hj => ?_) (fun i hi j hj => ?_)
              · obtain ⟨i, hi, rfl⟩ := List.getElem_of_mem hx
                exact (hxs i (by omega) hi).2.1
              · obtain ⟨v, h1, _⟩ := hcel i hi j hj
                rw [h1]; rfl
              · obtain ⟨v, h1, h2⟩ := hcel i hi j (by rw [(hxs i (by omega) hi).2.1] at hj; exact hj)
                rw [h1]
                exact h2 hi hj
          refine ⟨.sl true false (P.cellsOf e) xs, .sl ht (by simp [hxl]) (by omega) (fun i h1 h2 => by simpa using (hxs i (by simpa using h1) h2).1), hc1.symm, .one hv, ?_⟩
          rintro v (⟨ys, rfl, h1, h2⟩ | ⟨h1, h2⟩)
          · simp [aggT, ht] at h2
          · cases h1; exact hv
      ·
        rename_i fs ht
        split at hp
        case h_2 => cases hp
        rename_i m hm
        split at hp
        case h_2 => cases hp
        rename_i hcm
        have hcm := Nat.eq_of_beq_eq_true hcm
        obtain ⟨ys, fu, hfu, hx, hl, hyl, hy⟩ := DataW.trod_struct ht h
        obtain rfl : fuel = fu := by omega
        cases hx
        have each : ∀ i (hi : i < fs.toList.length) (hi' : i < ys.length), ∃ x, RdD P (fs.toList[i]).type (ys[i]).1 x ∧ x.cells.length = P.cellsOf (fs.toList[i]).type ∧ CellsV W ((cs.drop (fs.toList[i]).offset).take (P.cellsOf (fs.toList[i]).type)) x.cells := by
          intro i hi hi'
          have h1 := hy i (fs.toList[i]) (by simp at hi; simp [hi])
          rw [List.getElem?_eq_getElem hi'] at h1
          obtain ⟨k, hk⟩ := hall n fs.toList hp i hi
          obtain ⟨x, k1, k2, k3, _⟩ := ih k _ _ (ys[i]).1 (ys[i]).2 h1 hk
          exact ⟨x, k1, k2, k3⟩
        have hfl : fs.toList.length = ys.length := by simp [hyl]
        have : ∃ xs : List AV, xs.length = fs.toList.length ∧ ∀ i (hi : i < fs.toList.length) (hi' : i < ys.length) (hx : i < xs.length), RdD P (fs.toList[i]).type (ys[i]).1 xs[i] ∧ xs[i].cells.length = P.cellsOf (fs.toList[i]).type ∧ CellsV W ((cs.drop (fs.toList[i]).offset).take (P.cellsOf (fs.toList[i]).type)) xs[i].cells := by
          refine ⟨(List.finRange fs.toList.length).map fun i => Classical.choose (each i.1 i.2 (by omega)), by simp, fun i hi hi' hx => ?_⟩
          simp only [List.getElem_map, List.getElem_finRange]
          exact Classical.choose_spec (each i hi hi')
        obtain ⟨xs, hxl, hxs⟩ := this
        obtain ⟨_, hcv⟩ := laidB_flat fs.toList 0 m W cs xs hm hxl (fun i h1 h2 => ⟨(hxs i h1 (by omega) h2).2.2, (hxs i h1 (by omega) h2).2.1⟩) (by omega)
        rw [List.drop_zero] at hcv
        refine ⟨.agg (xs.flatMap AV.cells), .st ht (by simp [hyl]) (by simpa using hxl) (fun i h1 h2 h3 => by
          have := (hxs i (by simpa using h3) (by simpa using h1) h2).1
          simp only [Array.getElem_toList, List.getElem_map] at this ⊢
          exact this), by show (xs.flatMap AV.cells).length = _; rw [← hcv.1]; omega, hcv, ?_⟩
        rintro v (⟨zs, rfl, h1, h2⟩ | ⟨h1, h2⟩)
        · refine .agg (by rw [← hcv.1, ← h1]; simp) (fun i hi => ?_)
          have h3 : i < cs.length := by rw [hcv.1]; exact hi
          have := hcv.2 i h3 hi
          subst h1
          rw [Array.getD_eq_getD_getElem?, Array.getElem?_eq_getElem (by simpa using h3)]
          simpa using this
        · simp [aggT, ht] at h2
      · cases hp
theorem read_plain {H : Type} {enc : TypeId × Value → H} {P : Program} {W : World} {r : Reach} {base : Nat} {n : Nat} {t : TypeId} {v : Value} {d : DataW H} {ps : List MemPlace} (hp : plainB P n t = true) (hv : Value.okWide P W r base t v)
    (h : DataW.Trod enc P W 0 (fun _ => true) true t v d ps) : ∃ a, VRel (Rl.old W) W v a ∧ RdD P t d a := by
  obtain ⟨fuel, hf⟩ := h
  obtain ⟨a, h1, _, _, h2⟩ := read_cells fuel n t _ d ps hf hp
  refine ⟨a, h2 v ?_, h1⟩
  cases n with
  | zero => simp [plainB] at hp
  | succ n =>
    rw [plainB] at hp
    split at hp
    · rename_i ht
      obtain ⟨b, rfl⟩ := okWide_bool ht hv
      exact .inr ⟨rfl, by simp [aggT, ht]⟩
    · rename_i k ht
      obtain ⟨b, rfl⟩ := okWide_int ht hv
      exact .inr ⟨rfl, by simp [aggT, ht]⟩
    · rename_i ht
      obtain ⟨b, rfl⟩ := okWide_string ht hv
      exact .inr ⟨rfl, by simp [aggT, ht]⟩
    · rename_i e ht
      obtain ⟨a, len, cap, rfl⟩ := okWide_slice ht hv
      exact .inr ⟨rfl, by simp [aggT, ht]⟩
    · rename_i fs ht
      obtain ⟨cs, rfl, _⟩ := okWide_struct ht hv
      exact .inl ⟨cs, rfl, rfl, by simp [aggT, ht]⟩
    · cases hp
def RdDAll (P : Program) {H : Type} : List Field → List (DataW H) → List AV → Prop
  | [], [], [] => True
  | f :: fs, d :: ds, x :: xs => RdD P f.type d x ∧ RdDAll P fs ds xs
  | _, _, _ => False
theorem RdDAll.of {P : Program} {H : Type} : ∀ {fs : List Field} {ds : List (DataW H)} {xs : List AV}, ds.length = fs.length → xs.length = fs.length → (∀ i (h1 : i < ds.length) (h2 : i < xs.length) (h3 : i < fs.length), RdD P fs[i].type ds[i] xs[i]) → RdDAll P fs ds xs
  | [], ds, xs, h1, h2, _ => by
    obtain rfl : ds = [] := List.eq_nil_of_length_eq_zero h1
    obtain rfl : xs = [] := List.eq_nil_of_length_eq_zero h2
    trivial
  | f :: fs, ds, xs, h1, h2, h => by
    cases ds with
    | nil => simp at h1
    | cons d ds =>
      cases xs with
      | nil => simp at h2
      | cons x xs =>
        exact ⟨h 0 (by simp) (by simp) (by simp), RdDAll.of (by simpa using h1) (by simpa using h2) (fun i k1 k2 k3 => h (i + 1) (Nat.succ_lt_succ k1) (Nat.succ_lt_succ k2) (Nat.succ_lt_succ k3))⟩
theorem RdDAll.cons {P : Program} {H : Type} {f : Field} {fs : List Field} {ds : List (DataW H)} {xs : List AV} (h : RdDAll P (f :: fs) ds xs) : ∃ d ds' x xs', ds = d :: ds' ∧ xs = x :: xs' ∧ RdD P f.type d x ∧ RdDAll P fs ds' xs' := by
  match ds, xs, h with
  | d :: ds', x :: xs', ⟨h1, h2⟩ => exact ⟨d, ds', x, xs', rfl, rfl, h1, h2⟩
theorem RdDAll.nil {P : Program} {H : Type} {ds : List (DataW H)} {xs : List AV} (h : RdDAll P [] ds xs) : ds = [] ∧ xs = [] := by
  match ds, xs, h with
  | [], [], _ => exact ⟨rfl, rfl⟩
section
variable {P : Program} {H : Type} {t : TypeId} {d : DataW H} {a : AV}
theorem RdD.inv_st {fs : Array Field} (h : RdD P t d a) (ht : P.underlying t = some (.struct fs)) : ∃ ds xs, d = .agg ds ∧ a = .agg (xs.flatMap AV.cells) ∧ RdDAll P fs.toList ds xs := by
  cases h with
  | st ht' hd hx h =>
    rw [ht] at ht'
    cases ht'
    exact ⟨_, _, rfl, rfl, .of (by simpa using hd) (by simpa using hx) (fun i h1 h2 h3 => by simpa using h i h1 h2 (by simpa using h3))⟩
  | bool ht' => rw [ht] at ht'; cases ht'
  | str ht' => rw [ht] at ht'; cases ht'
  | int ht' => rw [ht] at ht'; cases ht'
  | nils ht' => rw [ht] at ht'; cases ht'
  | sl ht' => rw [ht] at ht'; cases ht'
theorem RdD.inv_str (h : RdD P t d a) (ht : P.underlying t = some .string) : ∃ s, d = .lit (.string s) ∧ a = .str s ∧ s.length ≤ maxLen := by
  cases h with
  | str ht' hs => exact ⟨_, rfl, rfl, hs⟩
  | bool ht' => rw [ht] at ht'; cases ht'
  | int ht' => rw [ht] at ht'; cases ht'
  | nils ht' => rw [ht] at ht'; cases ht'
  | sl ht' => rw [ht] at ht'; cases ht'
  | st ht' => rw [ht] at ht'; cases ht'
theorem RdD.inv_int {k : IntKind} (h : RdD P t d a) (ht : P.underlying t = some (.int k)) : ∃ n, d = .lit (.int k n) ∧ a = .int k n ∧ (Lit.int k n).wf = true := by
  cases h with
  | int ht' hs => rw [ht] at ht'; cases ht'; exact ⟨_, rfl, rfl, hs⟩
  | bool ht' => rw [ht] at ht'; cases ht'
  | str ht' => rw [ht] at ht'; cases ht'
  | nils ht' => rw [ht] at ht'; cases ht'
  | sl ht' => rw [ht] at ht'; cases ht'
  | st ht' => rw [ht] at ht'; cases ht'
theorem RdD.inv_bool (h : RdD P t d a) (ht : P.underlying t = some .bool) : ∃ b, d = .lit (.bool b) ∧ a = .bool b := by
  cases h with
  | bool ht' => exact ⟨_, rfl, rfl⟩
  | int ht' => rw [ht] at ht'; cases ht'
  | str ht' => rw [ht] at ht'; cases ht'
  | nils ht' => rw [ht] at ht'; cases ht'
  | sl ht' => rw [ht] at ht'; cases ht'
  | st ht' => rw [ht] at ht'; cases ht'
theorem RdD.inv_sl {e : TypeId} (h : RdD P t d a) (ht : P.underlying t = some (.slice e)) :
    ∃ (ds : List (DataW H)) (xs : List AV), a = .sl true false (P.cellsOf e) xs ∧ xs.length = ds.length ∧ xs.length ≤ maxLen ∧ (∀ i (h1 : i < ds.length) (h2 : i < xs.length), RdD P e ds[i] xs[i]) ∧ ((d = .nil ∧ ds = []) ∨ ∃ rest, d = .slice ds rest) := by
  cases h with
  | nils ht' => rw [ht] at ht'; cases ht'; exact ⟨[], [], rfl, rfl, Nat.zero_le _, fun i h => absurd h (by simp), .inl ⟨rfl, rfl⟩⟩
  | sl ht' hl hm h => rw [ht] at ht'; cases ht'; exact ⟨_, _, rfl, hl, hm, h, .inr ⟨_, rfl⟩⟩
  | bool ht' => rw [ht] at ht'; cases ht'
  | int ht' => rw [ht] at ht'; cases ht'
  | str ht' => rw [ht] at ht'; cases ht'
  | st ht' => rw [ht] at ht'; cases ht'
theorem RdD.each {α : Type} {e : TypeId} (f : α → AV) (g : α → DataW H → Prop) {ds : List (DataW H)} {xs : List AV} (hl : xs.length = ds.length) (h : ∀ i (h1 : i < ds.length) (h2 : i < xs.length), RdD P e ds[i] xs[i])
    (hf : ∀ d x, RdD P e d x → ∃ y, x = f y ∧ g y d) : ∃ ys : List α, xs = ys.map f ∧ ys.length = ds.length ∧ ∀ i (h1 : i < ds.length) (h2 : i < ys.length), g ys[i] ds[i] := by
  induction xs generalizing ds with
  | nil =>
    obtain rfl : ds = [] := List.eq_nil_of_length_eq_zero (by simpa using hl.symm)
    exact ⟨[], rfl, rfl, fun i h => absurd h (by simp)⟩
  | cons x xs ih =>
    cases ds with
    | nil => simp at hl
    | cons d ds =>
      obtain ⟨y, hy, hg⟩ := hf d x (h 0 (by simp) (by simp))
      obtain ⟨ys, h1, h2, h3⟩ := ih (ds := ds) (by simpa using hl) (fun i k1 k2 => h (i + 1) (Nat.succ_lt_succ k1) (Nat.succ_lt_succ k2))
      refine ⟨y :: ys, by rw [hy, h1]; rfl, by simp [h2], fun i k1 k2 => ?_⟩
      cases i with
      | zero => exact hg
      | succ i => exact h3 i (Nat.lt_of_succ_lt_succ k1) (Nat.lt_of_succ_lt_succ k2)
end
end Go.Ab
end
section
set_option linter.unusedVariables false
set_option linter.unusedSimpArgs false
namespace Go.Ab
open Go Go.WideShapes
mutual
def avB : AV → Nat
  | .str s => s.length
  | .sl _ _ _ xs => avS xs
  | .agg cs => avC cs
  | _ => 0
def avS : List AV → Nat
  | [] => 0
  | x :: r => avB x + 1 + avS r
def avC : List AV → Nat
  | [] => 0
  | x :: r => avB x + avC r
end
theorem avC_append (a b : List AV) : avC (a ++ b) = avC a + avC b := by
  induction a with
  | nil => simp [avC]
  | cons x a ih => simp only [List.cons_append, avC, ih]; omega
theorem avC_cells (x : AV) : avC x.cells ≤ avB x := by
  cases x <;> simp [AV.cells, avC, avB]
theorem avC_flat (xs : List AV) : avC (xs.flatMap AV.cells) ≤ avC xs := by
  induction xs with
  | nil => simp
  | cons x xs ih =>
    have := avC_cells x
    simp only [List.flatMap_cons, avC_append, avC]; omega
theorem avC_le_avS (xs : List AV) : avC xs ≤ avS xs := by
  induction xs with
  | nil => simp [avC, avS]
  | cons x xs ih => simp only [avC, avS]; omega
theorem avS_mem {x : AV} : ∀ {xs : List AV}, x ∈ xs → avB x + 1 ≤ avS xs
  | y :: ys, h => by
    rcases List.mem_cons.1 h with rfl | h
    · simp only [avS]; omega
    · have := avS_mem h; simp only [avS]; omega
theorem bulk_all {P : Program} {H : Type} {B : DataW H → Nat} {BA : List (DataW H) → Nat} (hn : BA [] = 0) (hc : ∀ d r, BA (d :: r) = B d + BA r) : ∀ {ds : List (DataW H)} {xs : List AV}, xs.length = ds.length →
    (∀ i (h1 : i < ds.length) (h2 : i < xs.length), avB xs[i] + 1 ≤ B ds[i]) → avS xs ≤ BA ds
  | [], xs, hl, h => by
    obtain rfl : xs = [] := List.eq_nil_of_length_eq_zero (by simpa using hl)
    simp [avS]
  | d :: ds, xs, hl, h => by
    cases xs with
    | nil => simp at hl
    | cons x xs =>
      have h0 := h 0 (by simp) (by simp)
      have := bulk_all (P := P) (B := B) hn hc (ds := ds) (xs := xs) (by simpa using hl) (fun i h1 h2 => h (i + 1) (Nat.succ_lt_succ h1) (Nat.succ_lt_succ h2))
      simp only [avS, hc]
      simp only [List.getElem_cons_zero] at h0
      omega
theorem RdD.bulk {P : Program} {H : Type} {B : DataW H → Nat} {BA : List (DataW H) → Nat} (hn : BA [] = 0) (hc : ∀ d r, BA (d :: r) = B d + BA r) (h1 : ∀ d, 1 ≤ B d) (hs : ∀ s, B (.lit (.string s)) = s.length + 1)
    (hsl : ∀ a b, B (.slice a b) = BA a + BA b + 1) (hag : ∀ a, B (.agg a) = BA a + 1) {t : TypeId} {d : DataW H} {a : AV} (h : RdD P t d a) : avB a + 1 ≤ B d := by
  induction h with
  | bool => simpa [avB] using h1 _
  | int => simpa [avB] using h1 _
  | str => simp [avB, hs]
  | nils => simpa [avB, avS] using h1 _
  | sl ht hl hm h ih =>
    have := bulk_all (P := P) (B := B) hn hc hl ih
    rw [hsl]; simp only [avB]; omega
  | st ht hd hx h ih =>
    have := bulk_all (P := P) (B := B) hn hc (by omega) (fun i a b => ih i a b (by omega))
    rw [hag]; simp only [avB]
    rename_i t fs ds xs
    have k1 := avC_flat xs
    have k2 := avC_le_avS xs
    omega
end Go.Ab
end
section
set_option linter.unusedVariables false
set_option linter.unusedSimpArgs false
set_option maxRecDepth 20000
set_option maxHeartbeats 8000000
namespace Go.Proofs.Ytopdpbcfgjijaaa
open Go Go.Ab
theorem callsA_bulk (l : List CL) : ∀ j ∈ l, j.job.length ≤ avS (callsA l) := fun j hj => by
  have h1 := avS_mem (show callA j ∈ callsA l from List.mem_map_of_mem hj)
  have h2 : avB (callA j) = 0 + (0 + (0 + (j.job.length + (0 + 0)))) := rfl
  omega
def newB (t : TM) : Heap := newL [termB t] t ++ [(0, some (.cells [] ⟨false, none⟩))] ++ [(0, some (.cells [] ⟨false, none⟩))]
theorem newB_li (t : TM) : LI t (newB t) [] 0 0 [] := by
  have hal1 : Alive [termB t] := fun e he => by rw [List.mem_singleton.1 he]; exact ⟨_, rfl⟩
  have h0 : LAt (newL [termB t] t) 3 2 none t 0 [] := newL_at [termB t] t hal1
  exact ⟨(h0.app _ _).app _ _, ⟨.nil, Nat.zero_le _, fun e he => by cases he⟩, Int.le_refl _, rfl, rfl, rfl, fun id hid ho => by
    unfold OwnL idsL idsJ at ho
    simp at ho; omega, fun s hs => by cases hs⟩
theorem all_len : ∀ {es : List JE}, (∀ e ∈ es, e.till.length ≤ 1000) → (allL es).length ≤ es.length * 1000
  | [], _ => Nat.le_refl _
  | e :: es, h => by
    have ih := all_len (es := es) fun x hx => h x (List.mem_cons_of_mem _ hx)
    have h1 := h e (List.mem_cons_self ..)
    have e1 : allL (e :: es) = leJ e ++ allL es := rfl
    have e2 : (leJ e).length = e.till.length := by unfold leJ; rw [List.length_map]
    rw [e1, List.length_append, e2, List.length_cons, Nat.add_mul]
    omega
theorem lsC_f {l : List LE} {k : Nat} (h : k < l.length) (f : Nat) (hf : f < 3) : ((lsC l).drop (offN 0 (mulN ((k : Int)).toNat 3) + f))[0]? = (l[k]).cells[f]? := by
  obtain ⟨r, hr⟩ := lsC_at h
  rw [offN_eq, mulN_eq, Int.toNat_natCast, Nat.zero_add, ← List.drop_drop, hr, List.getElem?_drop]
  match f, hf with
  | 0, _ => rfl
  | 1, _ => rfl
  | 2, _ => rfl
theorem txC_f {l : List Nm} {k : Nat} (h : k < l.length) : ((texts l).drop (offN 0 (mulN ((k : Int)).toNat 1)))[0]? = some (.str l[k]) := by
  rw [offN_eq, mulN_eq, Int.toNat_natCast, Nat.zero_add, Nat.mul_one, List.getElem?_drop]
  simp [texts, h]
theorem own_grant {q mid : Nat} {t : TM} {now n w : Int} {s : Nm} {es : List JE} : OwnL q mid (esS (grantS t now n w s es)) = OwnL q mid es := by
  have hT : OwnL q mid (es.map (tickE t.tries n)) = OwnL q mid es := own_map _ fun e => ⟨(tickE_jid _ _ e).1, (tickE_jid _ _ e).2.1⟩
  unfold grantS
  by_cases he : errT n now [w] = 0
  · rw [if_pos he, ← hT]
    generalize es.map (tickE t.tries n) = T
    cases ha : atL T s with
    | none => rfl
    | some i =>
      obtain ⟨hi, _⟩ := atL_some ha
      simp only [List.getElem?_eq_getElem hi]
      split
      · exact own_set hi rfl rfl
      · rfl
  · rw [if_neg he]; rfl
theorem own_act {q mid : Nat} {f : JE → JE} (hf : ∀ e, (f e).jid = e.jid ∧ (f e).tid = e.tid) {t : TM} {now n w : Int} {s : Nm} {es : List JE} : OwnL q mid (esS (actS f t now n w s es)) = OwnL q mid es := by
  have hT : OwnL q mid (es.map (tickE t.tries n)) = OwnL q mid es := own_map _ fun e => ⟨(tickE_jid _ _ e).1, (tickE_jid _ _ e).2.1⟩
  unfold actS
  by_cases he : errT n now [w] = 0
  · rw [if_pos he, ← hT]
    generalize es.map (tickE t.tries n) = T
    cases ha : fndL T s w with
    | none => rfl
    | some i =>
      obtain ⟨hi, _⟩ := fndL_some ha
      simp only [List.getElem?_eq_getElem hi]
      exact own_set hi (hf _).1 (hf _).2
  · rw [if_neg he]; rfl
theorem dnE_ids (t : TM) (w : Int) (good : Bool) (e : JE) : (dnE t w good e).jid = e.jid ∧ (dnE t w good e).tid = e.tid := by
  cases good with
  | true => exact ⟨rfl, rfl⟩
  | false => obtain ⟨f1, f2, _⟩ := freeE_jid t.tries (dlE w e); exact ⟨f1, f2⟩
theorem LeaseBounds_ok (t : TM) (l : List CL) (hb : avB (.sl true false 5 (callsA l)) ≤ 1048576) (hwf : ∀ c ∈ l, c.wf) :
    Calc cx 4 [termA t, .sl true false 5 (callsA l)] (.bool true) :=
  pure_intro (fun a w => Try.call4 a w) Try.func4 rfl Try.ntmps4 rfl .bool fun B => by
    have hBg := leaseBegun_ok
    have hal0 : Alive ([] : Heap) := fun e he => by cases he
    have hal1 : Alive [termB t] := fun e he => by rw [List.mem_singleton.1 he]; exact ⟨_, rfl⟩
    have hjl : ∀ c ∈ l, c.job.length ≤ 1048576 := fun c hc => Nat.le_trans (callsA_bulk l c hc) hb
    have hll := callsA_len l
    refine pao [.f (.ptr 0 0 0) (fun s => s ++ [termB t]), .v (.bool true), .b false, .v (termA t), .s] rfl ?_ ?_
    · (repeat' with_reducible apply AllP_cons) <;> try exact aC
      · exact OpSpec.boxE (y := termA t) rfl rfl rfl rfl hal0
      · exact ⟨[], hBg, .nil _⟩
      · exact OpSpec.loadPA (id := 0) (cs := (termA t).cells) rfl rfl rfl rfl rfl (lble rfl) rfl
    refine S_heap [termB t] rfl ?_
    cases htk : termOk t with
    | false =>
      have hN := New_bad [termB t] t hal1 htk
      refine pao [.f (.tup [.nilp, .int .i64 3]) (fun s => s ++ [termB t]), .b true, .b true] rfl ?_ ?_
      · (repeat' with_reducible apply AllP_cons) <;> try exact aC
      exact S_ret ⟨_, _, rfl, trivial, _, rfl, .refl .bool⟩
    | true =>
      have ht := TOk.of htk
      have hN := New_ok [termB t] t hal1 htk
      refine pao [.f (.tup [.ptr 3 0 0, .int .i64 0]) (fun s => s ++ [termB t, (0, some (.map [] none)), (0, some (bookB t 0 2))]), .b false, .b false] rfl ?_ ?_
      · (repeat' with_reducible apply AllP_cons) <;> try exact aC
      refine S_heap (newL [termB t] t) rfl ?_
      refine S_ghostF (t := 8) (gid := 4) (gver := 0) (σ' := newL [termB t] t ++ [(0, some (.cells [] ⟨false, none⟩))]) 1 ⟨false, none⟩ rfl rfl ⟨_, _, .inl rfl⟩ ?_
      refine S_ghostF (t := 9) (gid := 5) (gver := 0) (σ' := newB t) 1 ⟨false, none⟩ rfl rfl ⟨_, _, .inl rfl⟩ ?_
      refine S_while (α := (Heap × List JE × Int × Int × List Nm) × Nat) (fun s => [(1, .sl true false 5 (callsA l)), (2, .ptr 0 0 0), (5, .ptr 3 0 0), (7, .int .i64 s.1.2.2.2.1), (8, .ms 4 s.1.2.1.length 0 s.1.2.1.length 1 false), (9, .ms 5 s.1.2.2.2.2.length 0 s.1.2.2.2.2.length 1 false), (10, .int .i64 (s.2 : Nat))]) (fun s => s.1.1)
        (fun s => LI t s.1.1 s.1.2.1 s.1.2.2.1 s.1.2.2.2.1 s.1.2.2.2.2 ∧ 0 ≤ s.1.2.2.2.1 ∧ s.1.2.2.2.1 ≤ 1000000000 ∧ s.1.2.2.2.2.length ≤ s.2 ∧ s.2 ≤ l.length ∧ s.2 ≤ 250) (fun s => l.length - s.2) ((newB t, [], 0, 0, []), 0)
        ⟨newB_li t, Int.le_refl _, (show (0 : Int) ≤ 1000000000 by decide), Nat.le_refl _, Nat.zero_le _, Nat.zero_le _⟩ (.cons rfl (.cons rfl (.cons rfl (.cons rfl (.cons rfl (.cons rfl (.cons rfl (.nil _)))))))) rfl ?_
      rintro ⟨⟨σ, es, bn, n, dn⟩, i⟩ ⟨h, hn0, hn1, hdl, hi1, hi2⟩
      simp only at h hn0 hn1 hdl hi1 hi2
      by_cases hlt1 : i < l.length
      case neg =>
        have d1 : decide ((i : Int) < (((callsA l).length : Nat) : Int)) = false := decide_eq_false (by omega)
        refine pao [.b false, .b false] rfl ?_ ?_
        · (repeat' with_reducible apply AllP_cons) <;> try exact aC
        exact S_ret ⟨_, _, rfl, trivial, _, rfl, .refl .bool⟩
      have d1 : decide ((i : Int) < (((callsA l).length : Nat) : Int)) = true := decide_eq_true (by omega)
      by_cases hlt2 : i < 250
      case neg =>
        have d2 : decide ((i : Int) < 250) = false := decide_eq_false (by omega)
        refine pao [.b true, .b false] rfl ?_ ?_
        · (repeat' with_reducible apply AllP_cons) <;> try exact aC
        exact S_ret ⟨_, _, rfl, trivial, _, rfl, .refl .bool⟩
      have d2 : decide ((i : Int) < 250) = true := decide_eq_true (by omega)
      have hi1' : AV.int .i64 (IntKind.i64.wrap ((i : Int) + 1)) = .int .i64 ((i + 1 : Nat) : Int) := ai64 rfl (by omega)
      obtain ⟨c, hc⟩ : ∃ c, c = l[i] := ⟨_, rfl⟩
      have hcm : c ∈ l := by rw [hc]; exact List.getElem_mem hlt1
      have hcx : (callsA l)[(i : Int).toNat]? = some (callA c) := by rw [Int.toNat_natCast, hc]; simp [callsA, hlt1]
      obtain ⟨hk1, hk2, hk3⟩ := hwf c hcm
      have hcj := hjl c hcm
      obtain ⟨z, hz⟩ : ∃ z : Nat × Option Box, z = (0, some (.cells [.int .i64 0, .int .i64 0, .int .i64 0, .str [], .bool false] ⟨false, some 38⟩)) := ⟨_, rfl⟩
      have h2 : LI t (σ ++ [callB c]) es bn n dn := h.app _ _
      have hcb : (σ ++ [callB c])[σ.length]? = some (callB c) := app_last
      have hC1 := choose_ok c.n 30 hk3 (by decide) (by decide)
      have hC1l := chooseN_lt c.n (n := 30) (by decide)
      generalize chooseN c.n 30 = kn at *
      have hC2 := choose_ok c.kind 5 hk1 (by decide) (by decide)
      have hC2l := chooseN_lt c.kind (n := 5) (by decide)
      generalize chooseN c.kind 5 = kd at *
      have hwn : IntKind.i64.wrap (n + (kn : Int)) = n + (kn : Int) := IntWalk.i64_in _ ⟨by omega, by omega⟩
      obtain ⟨n', hn'⟩ : ∃ n', n' = min 1000000000 (n + (kn : Int)) := ⟨_, rfl⟩
      have hq0 : 0 ≤ n' ∧ n' ≤ 1000000000 ∧ n ≤ n' := by omega
      obtain ⟨q0, q1, q2⟩ := hq0
      refine pao [.b true, .b true, .v (callA c), .v (callA c), .f (.ptr σ.length 0 0) (fun s => s ++ [z]), .f (.tup []) (fun _ => σ ++ [callB c]), .v (.int .i64 c.n), .v (.int .i64 (kn : Nat)), .v (.int .i64 c.kind), .v (.int .i64 (kd : Nat)), .s] rfl ?_ ?_
      · (repeat' with_reducible apply AllP_cons) <;> try exact aC
        · exact OpSpec.loadRA rfl rfl rfl rfl (lble rfl) rfl
        · rw [hz]; exact OpSpec.allocE rfl rfl rfl rfl h.la.al
        · exact OpSpec.storeP (id := σ.length) (gT := some 38) (cs := [.int .i64 0, .int .i64 0, .int .i64 0, .str [], .bool false]) (y := callA c) rfl rfl rfl rfl rfl rfl (by rw [app_last, hz]) (lble rfl) (by rw [List.set_append_right _ _ (Nat.le_refl _), Nat.sub_self]; rfl)
        · exact OpSpec.loadP rfl rfl rfl rfl hcb rfl
        · exact ⟨_, hC1, .cons (.refl .int) (.cons (.refl .int) (.nil _))⟩
        · exact OpSpec.loadP rfl rfl rfl rfl hcb rfl
        · exact ⟨_, hC2, .cons (.refl .int) (.cons (.refl .int) (.nil _))⟩
      have hN7 : AV.int .i64 (min 1000000000 (IntKind.i64.wrap (n + (kn : Int)))) = AV.int .i64 n' := by rw [hwn, hn']
      have h2m := h2.mono q2
      have hcno : ¬ OwnL 3 2 es σ.length := fun ho => by have := h.la.lt _ ho; omega
      refine' S_shareO (ι := (Heap × List JE × Int × List Nm) × Int) (fun s => [(1, .sl true false 5 (callsA l)), (2, .ptr 0 0 0), (5, .ptr 3 0 0), (7, .int .i64 n'), (8, .ms 4 s.1.2.1.length 0 s.1.2.1.length 1 false), (9, .ms 5 s.1.2.2.2.length 0 s.1.2.2.2.length 1 false), (10, .int .i64 (i : Nat)), (12, .int .i64 s.2), (124, .ptr 3 0 0)]) (fun s => s.1.1)
        (fun s => LI t s.1.1 s.1.2.1 s.1.2.2.1 n' s.1.2.2.2 ∧ s.1.2.2.2.length ≤ i + 1 ∧ (s.2 ≠ 3 → LvN n' s.1.2.1)) ?main ?rest
      case main =>
        intro hsh
        have tick : ∀ (s : Heap) (es2 : List JE), LI t s es2 bn n' dn → CallOk cx 18 [.ptr 3 0 0, .int .i64 n'] s (fun o u => ∃ w wv, o = .ret (.tup [.ms w wv 0 (goneL n' es2).length 1 false, .int .i64 0]) ∧ LI t u (es2.map (tickE t.tries n')) n' n' dn ∧ LvN n' (es2.map (tickE t.tries n'))) := fun s es2 h3 => by
          have hT := Tick_ok s 3 2 t bn n' es2 h3.la (h3.b.bd ht).tl (h3.b.bd ht).el (errT_0 q0 q1 (by have := h.le; omega))
          refine ⟨hT.1, fun r w vs hi hv => (hT.2 r w vs hi hv).mono fun e w' ⟨out, σ', r', hR, ho⟩ => ⟨out, σ', r', ?_, ho⟩⟩
          obtain ⟨w, wv, hR, _, _, hl, hk⟩ := hR
          obtain ⟨a, b⟩ := h3.time hl hk
          exact ⟨w, wv, hR, a, b⟩
        rcases (by omega : kd = 1 ∨ kd = 2 ∨ kd = 3 ∨ kd = 0 ∨ kd = 4) with rfl | rfl | rfl | rfl | rfl
        · refine pao [.b false, .b true, .v (.str c.job), .v (.int .i64 c.wk)] rfl ?_ ?_
          · (repeat' with_reducible apply AllP_cons) <;> try exact aC
            · exact OpSpec.loadP rfl rfl rfl rfl hcb rfl
            · exact OpSpec.loadP rfl rfl rfl rfl hcb rfl
          have hG := Grant_ok (σ ++ [callB c]) 3 2 t bn n' c.wk es c.job h2.la (h2.b.bd ht)
          have ha := grant_aft (w := c.wk) (s := c.job) ht h2.b h2.dk q0 q1 (Int.le_trans h.le q2)
          refine S_calle rfl rfl rfl (by rw [← hN7]; rfl) hG (fun v s1 hR => ?_) (fun v s hR => by obtain ⟨hR, _⟩ := hR; cases hR)
          obtain ⟨hR, hL, hK⟩ := hR
          cases hR
          have h3 := h2m.step hL (by rw [own_grant]; exact hK) ha
          have hle : (esS (grantS t bn n' c.wk c.job es)).length = es.length := by have := congrArg List.length ha.nm; simpa using this
          have hm8 : AV.ms 4 es.length 0 es.length 1 false = AV.ms 4 (esS (grantS t bn n' c.wk c.job es)).length 0 (esS (grantS t bn n' c.wk c.job es)).length 1 false := by rw [hle]
          refine pao [] rfl ?_ ?_
          · (repeat' with_reducible apply AllP_cons) <;> try exact aC
          exact hsh ((s1, _, _, dn), _) _ ⟨h3, by show dn.length ≤ _; omega, ha.lv⟩ (.cons rfl (.cons rfl (.cons rfl (.cons hN7 (.cons hm8 (.cons rfl (.cons rfl (.cons rfl (.cons rfl (.nil _))))))))))
        · refine pao [.b false, .b false, .b true, .v (.str c.job), .v (.int .i64 c.wk)] rfl ?_ ?_
          · (repeat' with_reducible apply AllP_cons) <;> try exact aC
            · exact OpSpec.loadP rfl rfl rfl rfl hcb rfl
            · exact OpSpec.loadP rfl rfl rfl rfl hcb rfl
          have hG := Beat_ok (σ ++ [callB c]) 3 2 t bn n' c.wk es c.job h2.la (h2.b.bd ht)
          have ha := act_aft (t := t) (f := beE t n' c.wk) (w := c.wk) (s := c.job) h2.b h2.dk q0 q1 (Int.le_trans h.le q2) (fun e j => be_ok ht e j)
          refine S_calle rfl rfl rfl (by rw [← hN7]; rfl) hG (fun v s1 hR => ?_) (fun v s hR => by obtain ⟨hR, _⟩ := hR; cases hR)
          obtain ⟨hR, hL, hK⟩ := hR
          cases hR
          have h3 := h2m.step hL (by rw [own_act (f := beE t n' c.wk) (fun e => ⟨rfl, rfl⟩)]; exact hK) ha
          have hle : (esS (actS (beE t n' c.wk) t bn n' c.wk c.job es)).length = es.length := by have := congrArg List.length ha.nm; simpa using this
          have hm8 : AV.ms 4 es.length 0 es.length 1 false = AV.ms 4 (esS (actS (beE t n' c.wk) t bn n' c.wk c.job es)).length 0 (esS (actS (beE t n' c.wk) t bn n' c.wk c.job es)).length 1 false := by rw [hle]
          refine pao [] rfl ?_ ?_
          · (repeat' with_reducible apply AllP_cons) <;> try exact aC
          exact hsh ((s1, _, _, dn), _) _ ⟨h3, by show dn.length ≤ _; omega, ha.lv⟩ (.cons rfl (.cons rfl (.cons rfl (.cons hN7 (.cons hm8 (.cons rfl (.cons rfl (.cons rfl (.cons rfl (.nil _))))))))))
        · refine pao [.b false, .b false, .b false, .b true, .v (.str c.job), .v (.int .i64 c.wk), .v (.bool c.good)] rfl ?_ ?_
          · (repeat' with_reducible apply AllP_cons) <;> try exact aC
            · exact OpSpec.loadP rfl rfl rfl rfl hcb rfl
            · exact OpSpec.loadP rfl rfl rfl rfl hcb rfl
            · exact OpSpec.loadP rfl rfl rfl rfl hcb rfl
          have hG := Done_ok (σ ++ [callB c]) 3 2 t bn n' c.wk es c.job c.good h2.la (h2.b.bd ht)
          have ha := act_aft (t := t) (f := dnE t c.wk c.good) (w := c.wk) (s := c.job) h2.b h2.dk q0 q1 (Int.le_trans h.le q2) (fun e j => dn_ok c.good e j)
          refine S_calle rfl rfl rfl (by rw [← hN7]; rfl) hG (fun v s1 hR => ?_) (fun v s hR => by obtain ⟨hR, _⟩ := hR; cases hR)
          obtain ⟨hR, hL, hK⟩ := hR
          cases hR
          have h3 := h2m.step hL (by rw [own_act (dnE_ids t c.wk c.good)]; exact hK) ha
          have hle : (esS (actS (dnE t c.wk c.good) t bn n' c.wk c.job es)).length = es.length := by have := congrArg List.length ha.nm; simpa using this
          have hm8 : AV.ms 4 es.length 0 es.length 1 false = AV.ms 4 (esS (actS (dnE t c.wk c.good) t bn n' c.wk c.job es)).length 0 (esS (actS (dnE t c.wk c.good) t bn n' c.wk c.job es)).length 1 false := by rw [hle]
          have hcs : s1[σ.length]? = some (callB c) := by rw [hK.same _ (by simp) hcno]; exact hcb
          by_cases hz0 : codeS (actS (dnE t c.wk c.good) t bn n' c.wk c.job es) = 0
          · have e1 : (codeS (actS (dnE t c.wk c.good) t bn n' c.wk c.job es) == 0) = true := by simp [hz0]
            cases hgd : c.good with
            | true =>
              rw [hgd] at ha h3 hle hm8 hz0 e1
              have hd := dn_done hz0 ha
              have h4 := h3.done c.job hd
              obtain ⟨G, hG⟩ : ∃ G : Nat × Option Box, G = (dn.length + 1, some (.cells (texts (dn ++ [c.job])) ⟨false, none⟩)) := ⟨_, rfl⟩
              rw [← hG] at h4
              have hl5 : (dn ++ [c.job]).length = dn.length + 1 := by simp
              have hm9 : AV.ms 5 (dn.length + 1) 0 (dn.length + 1) 1 false = AV.ms 5 (dn ++ [c.job]).length 0 (dn ++ [c.job]).length 1 false := by rw [hl5]
              have hcs' : s1[σ.length]? = some (0, some (.cells [.int .i64 c.kind, .int .i64 c.wk, .int .i64 c.n, .str c.job, .bool true] ⟨false, some 38⟩)) := by rw [hcs]; unfold callB CL.cells; rw [hgd]
              refine pao [.b true, .v (.bool true), .b true, .v (.str c.job), .f (.ms 5 (dn.length + 1) 0 (dn.length + 1) 1 false) (fun s => s.set 5 G)] rfl ?_ ?_
              · (repeat' with_reducible apply AllP_cons) <;> try exact aC
                · exact OpSpec.loadP rfl rfl rfl rfl hcs' rfl
                · exact OpSpec.loadP rfl rfl rfl rfl hcs' rfl
                · refine OpSpec.appendX (id := 5) (ver := dn.length) (off := 0) (len := dn.length) (y := .str c.job) (cs := texts dn) rfl rfl rfl rfl rfl (fun z hz => by rw [List.mem_singleton.1 (show z ∈ [AV.str c.job] from hz)]; rfl) h3.c5 ?_ ?_ ?_ ?_
                  · rw [texts_len]; omega
                  · show (dn.length + 1) * 16 ≤ _; omega
                  · omega
                  · rw [hG, ← texts_snoc]; rfl
              exact hsh ((s1.set 5 G, _, _, dn ++ [c.job]), _) _ ⟨h4, by show (dn ++ [c.job]).length ≤ _; rw [hl5]; omega, ha.lv⟩ (.cons rfl (.cons rfl (.cons rfl (.cons hN7 (.cons hm8 (.cons hm9 (.cons rfl (.cons rfl (.cons rfl (.nil _))))))))))
            | false =>
              rw [hgd] at ha h3 hle hm8 hz0 e1
              have hcs' : s1[σ.length]? = some (0, some (.cells [.int .i64 c.kind, .int .i64 c.wk, .int .i64 c.n, .str c.job, .bool false] ⟨false, some 38⟩)) := by rw [hcs]; unfold callB CL.cells; rw [hgd]
              refine pao [.b true, .v (.bool false), .b false] rfl ?_ ?_
              · (repeat' with_reducible apply AllP_cons) <;> try exact aC
                · exact OpSpec.loadP rfl rfl rfl rfl hcs' rfl
              exact hsh ((s1, _, _, dn), _) _ ⟨h3, by show dn.length ≤ _; omega, ha.lv⟩ (.cons rfl (.cons rfl (.cons rfl (.cons hN7 (.cons hm8 (.cons rfl (.cons rfl (.cons rfl (.cons rfl (.nil _))))))))))
          · have e1 : (codeS (actS (dnE t c.wk c.good) t bn n' c.wk c.job es) == 0) = false := by simp [hz0]
            refine pao [.b false, .b false] rfl ?_ ?_
            · (repeat' with_reducible apply AllP_cons) <;> try exact aC
            exact hsh ((s1, _, _, dn), _) _ ⟨h3, by show dn.length ≤ _; omega, ha.lv⟩ (.cons rfl (.cons rfl (.cons rfl (.cons hN7 (.cons hm8 (.cons rfl (.cons rfl (.cons rfl (.cons rfl (.nil _))))))))))
        · have hs8 : c.job.length ≤ 9223372036854775807 := by omega
          have hcb3 : ∀ s1 : Heap, QKeep (σ ++ [callB c]) s1 (OwnL 3 2 es) (OwnL 3 2 (es ++ [newJ c.job (σ ++ [callB c]).length])) → s1[σ.length]? = some (callB c) := fun s1 hK => by rw [hK.same _ (by simp) hcno]; exact hcb
          by_cases hae : addE es c.job = 0
          · have hA := Add_ok (σ ++ [callB c]) 3 2 t bn es c.job h2.la hs8 (by have := h2.b.el; omega) hae
            refine pao [.b true, .v (.str c.job)] rfl ?_ ?_
            · (repeat' with_reducible apply AllP_cons) <;> try exact aC
              · exact OpSpec.loadP rfl rfl rfl rfl hcb rfl
            refine S_call rfl rfl rfl hA (fun v s1 hR => ?_) (fun v s hR => by obtain ⟨hR, _⟩ := hR; cases hR)
            obtain ⟨hR, hL1, hK1⟩ := hR
            cases hR
            obtain ⟨h3, h4⟩ := h2m.add ht hae hL1 hK1
            have hcs := hcb3 s1 hK1
            generalize newJ c.job (σ ++ [callB c]).length = nj at *
            obtain ⟨G, hG⟩ : ∃ G : Nat × Option Box, G = (es.length + 1, some (.cells (texts (es.map JE.name ++ [c.job])) ⟨false, none⟩)) := ⟨_, rfl⟩
            rw [← hG] at h3
            have hel : es.length ≤ 200 := h2.b.el
            refine pao [.b true, .v (.str c.job), .f (.ms 4 (es.length + 1) 0 (es.length + 1) 1 false) (fun s => s.set 4 G)] rfl ?_ ?_
            · (repeat' with_reducible apply AllP_cons) <;> try exact aC
              · exact OpSpec.loadP rfl rfl rfl rfl hcs rfl
              · refine OpSpec.appendX (id := 4) (ver := es.length) (off := 0) (len := es.length) (y := .str c.job) (cs := texts (es.map JE.name)) rfl rfl rfl rfl rfl (fun z hz => by rw [List.mem_singleton.1 (show z ∈ [AV.str c.job] from hz)]; rfl) h4 ?_ ?_ ?_ ?_
                · rw [texts_len, List.length_map]; omega
                · show (es.length + 1) * 16 ≤ _; omega
                · omega
                · rw [hG, ← texts_snoc]; rfl
            refine S_calle rfl rfl rfl (by rw [← hN7]; rfl) (tick _ (es ++ [nj]) h3) (fun v s2 hR => ?_) (fun v s hR => by obtain ⟨w, wv, hR, _⟩ := hR; cases hR)
            obtain ⟨w, wv, hR, h5, hlv⟩ := hR
            cases hR
            have hm8 : AV.ms 4 (es.length + 1) 0 (es.length + 1) 1 false = AV.ms 4 ((es ++ [nj]).map (tickE t.tries n')).length 0 ((es ++ [nj]).map (tickE t.tries n')).length 1 false := by rw [List.length_map, List.length_append, List.length_singleton]
            refine pao [] rfl ?_ ?_
            · (repeat' with_reducible apply AllP_cons) <;> try exact aC
            exact hsh ((s2, _, _, dn), _) _ ⟨h5, by show dn.length ≤ _; omega, fun _ => hlv⟩ (.cons rfl (.cons rfl (.cons rfl (.cons hN7 (.cons hm8 (.cons rfl (.cons rfl (.cons rfl (.cons rfl (.nil _))))))))))
          · have hA := Add_bad (σ ++ [callB c]) 3 2 t bn es c.job h2.la hs8 (by have := h2.b.el; omega) hae
            have e1 : (addE es c.job == 0) = false := by simp [hae]
            refine pao [.b true, .v (.str c.job), .k (.int .i64 (addE es c.job)), .b false] rfl ?_ ?_
            · (repeat' with_reducible apply AllP_cons) <;> try exact aC
              · exact OpSpec.loadP rfl rfl rfl rfl hcb rfl
            refine S_calle rfl rfl rfl (by rw [← hN7]; rfl) (tick _ es (h2m)) (fun v s1 hR => ?_) (fun v s hR => by obtain ⟨w, wv, hR, _⟩ := hR; cases hR)
            obtain ⟨w, wv, hR, h3, hlv⟩ := hR
            cases hR
            have hm8 : AV.ms 4 es.length 0 es.length 1 false = AV.ms 4 (es.map (tickE t.tries n')).length 0 (es.map (tickE t.tries n')).length 1 false := by rw [List.length_map]
            refine pao [] rfl ?_ ?_
            · (repeat' with_reducible apply AllP_cons) <;> try exact aC
            exact hsh ((s1, _, _, dn), _) _ ⟨h3, by show dn.length ≤ _; omega, fun _ => hlv⟩ (.cons rfl (.cons rfl (.cons rfl (.cons hN7 (.cons hm8 (.cons rfl (.cons rfl (.cons rfl (.cons rfl (.nil _))))))))))
        · refine pao [.b false, .b false, .b false, .b false, .b true] rfl ?_ ?_
          · (repeat' with_reducible apply AllP_cons) <;> try exact aC
          refine S_calle rfl rfl rfl (by rw [← hN7]; rfl) (tick _ es (h2m)) (fun v s1 hR => ?_) (fun v s hR => by obtain ⟨w, wv, hR, _⟩ := hR; cases hR)
          obtain ⟨w, wv, hR, h3, hlv⟩ := hR
          cases hR
          have hm8 : AV.ms 4 es.length 0 es.length 1 false = AV.ms 4 (es.map (tickE t.tries n')).length 0 (es.map (tickE t.tries n')).length 1 false := by rw [List.length_map]
          refine pao [] rfl ?_ ?_
          · (repeat' with_reducible apply AllP_cons) <;> try exact aC
          exact hsh ((s1, _, _, dn), _) _ ⟨h3, by show dn.length ≤ _; omega, fun _ => hlv⟩ (.cons rfl (.cons rfl (.cons rfl (.cons hN7 (.cons hm8 (.cons rfl (.cons rfl (.cons rfl (.cons rfl (.nil _))))))))))
      case rest =>
        rintro ⟨⟨u, es2, bn2, dn2⟩, ee⟩ ⟨h3, hd3, hlv⟩
        simp only at h3 hd3 hlv
        have hLs := Leases_ok u 3 2 t bn2 es2 h3.la (h3.b.lv ht)
        refine S_call rfl rfl rfl hLs (fun v s5 hR => ?_) (fun v s hR => by obtain ⟨w, wv, out, hR, _⟩ := hR; cases hR)
        obtain ⟨w, wv, out, hR, hw, hgw, hpo, hpw, hL5, hK5⟩ := hR
        cases hR
        have hk5 := h3.noK hK5
        have c0 : s5[0]? = some (termB t) := (hk5.2 0 (.inl rfl)).trans h3.c0
        have c4 : s5[4]? = some (es2.length, some (.cells (texts (es2.map JE.name)) ⟨false, none⟩)) := (hk5.2 4 (.inr (.inl rfl))).trans h3.c4
        have c5 : s5[5]? = some (dn2.length, some (.cells (texts dn2) ⟨false, none⟩)) := (hk5.2 5 (.inr (.inr rfl))).trans h3.c5
        have h5 : LI t s5 es2 bn2 n' dn2 := ⟨hL5, h3.b, h3.le, c0, c4, c5, hk5.1, h3.dk⟩
        have hel2 := h3.b.el
        have hol : out.length ≤ 200000 := by
          rw [hpo.length_eq]
          have h1 := all_len (h3.b.lv ht).tn
          have : es2.length * 1000 ≤ 200 * 1000 := Nat.mul_le_mul_right _ hel2
          omega
        refine pao [] rfl ?_ ?_
        · (repeat' with_reducible apply AllP_cons) <;> try exact aC
        refine S_while (α := Nat) (fun k => [(1, .sl true false 5 (callsA l)), (2, .ptr 0 0 0), (5, .ptr 3 0 0), (7, .int .i64 n'), (8, .ms 4 es2.length 0 es2.length 1 false), (9, .ms 5 dn2.length 0 dn2.length 1 false), (10, .int .i64 (i : Nat)), (12, .int .i64 ee), (13, .ms w wv 0 out.length 3 false), (14, .int .i64 (k : Nat))]) (fun _ => s5) (fun k => k ≤ out.length) (fun k => out.length - k) 0
          (Nat.zero_le _) (.cons rfl (.cons rfl (.cons rfl (.cons rfl (.cons rfl (.cons rfl (.cons rfl (.cons rfl (.cons rfl (.cons rfl (.nil _))))))))))) rfl ?_
        intro k hk
        by_cases hkl : k < out.length
        · have f1 : decide ((k : Int) < (out.length : Int)) = true := decide_eq_true (by omega)
          have hk1 : AV.int .i64 (IntKind.i64.wrap ((k : Int) + 1)) = .int .i64 ((k + 1 : Nat) : Int) := ai64 rfl (by omega)
          have hx : out[k] ∈ allL es2 := hpo.mem_iff.1 (List.getElem_mem hkl)
          obtain ⟨e, hem, he1, he2, he3⟩ := held_of h3.b hx
          have heo := h3.b.eo e hem
          obtain ⟨hst, htr⟩ := heo.ho fun h0 => by rw [h0] at he2; cases he2
          have hx0 := lsC_f hkl 0 (by decide)
          have hx2 := lsC_f hkl 2 (by decide)
          have hS := State_ok s5 3 2 t bn2 es2 out[k].job hL5
          rw [he3, hst] at hS
          have hS : CallOk cx 21 [.ptr 3 0 0, .str out[k].job] s5 (fun o s => o = .ret (.tup [.int .i64 2, .int .i64 e.tried]) ∧ s = s5) := hS
          have f2 : decide (e.tried < 1) = false := decide_eq_false (by omega)
          have fin : ∀ (fr : Fr), True := fun _ => trivial
          by_cases he : ee = 3
          · have f3 : (ee != 3) = false := by simp [he]
            refine pao [.b true, .v .top, .v (.str out[k].job), .k (.tup [.int .i64 2, .int .i64 e.tried]), .b false, .b false, .b false, .b false] rfl ?_ ?_
            · (repeat' with_reducible apply AllP_cons) <;> try exact aC
              · exact OpSpec.loadE rfl rfl rfl rfl hgw hx0
            exact S_round (k + 1) (by show out.length - (k + 1) < out.length - k; omega) hkl (.cons rfl (.cons rfl (.cons rfl (.cons rfl (.cons rfl (.cons rfl (.cons rfl (.cons rfl (.cons rfl (.cons hk1 (.nil _))))))))))) rfl
          · have f3 : (ee != 3) = true := by simp [he]
            have f4 : decide (out[k].tl < n') = false := decide_eq_false (hlv he e hem _ he2)
            refine pao [.b true, .v .top, .v (.str out[k].job), .k (.tup [.int .i64 2, .int .i64 e.tried]), .b false, .b false, .b true, .v .top, .v (.int .i64 out[k].tl), .b false] rfl ?_ ?_
            · (repeat' with_reducible apply AllP_cons) <;> try exact aC
              · exact OpSpec.loadE rfl rfl rfl rfl hgw hx0
              · exact OpSpec.loadE rfl rfl rfl rfl hgw hx2
            exact S_round (k + 1) (by show out.length - (k + 1) < out.length - k; omega) hkl (.cons rfl (.cons rfl (.cons rfl (.cons rfl (.cons rfl (.cons rfl (.cons rfl (.cons rfl (.cons rfl (.cons hk1 (.nil _))))))))))) rfl
        · have f1 : decide ((k : Int) < (out.length : Int)) = false := decide_eq_false (by omega)
          refine pao [.b false] rfl ?_ ?_
          · (repeat' with_reducible apply AllP_cons) <;> try exact aC
          refine S_while (α := Nat) (fun j => [(1, .sl true false 5 (callsA l)), (2, .ptr 0 0 0), (5, .ptr 3 0 0), (7, .int .i64 n'), (8, .ms 4 es2.length 0 es2.length 1 false), (9, .ms 5 dn2.length 0 dn2.length 1 false), (10, .int .i64 (i : Nat)), (13, .ms w wv 0 out.length 3 false), (17, .int .i64 (j : Nat))]) (fun _ => s5) (fun j => j ≤ es2.length) (fun j => es2.length - j) 0
            (Nat.zero_le _) (.cons rfl (.cons rfl (.cons rfl (.cons rfl (.cons rfl (.cons rfl (.cons rfl (.cons rfl (.cons rfl (.nil _)))))))))) rfl ?_
          intro j hj
          by_cases hjl : j < es2.length
          · have g1 : decide ((j : Int) < (es2.length : Int)) = true := decide_eq_true (by omega)
            have hj1 : AV.int .i64 (IntKind.i64.wrap ((j : Int) + 1)) = .int .i64 ((j + 1 : Nat) : Int) := ai64 rfl (by omega)
            obtain ⟨e, hee⟩ : ∃ e, e = es2[j] := ⟨_, rfl⟩
            have hem : e ∈ es2 := by rw [hee]; exact List.getElem_mem hjl
            have heo := h3.b.eo e hem
            have hnx : ((texts (es2.map JE.name)).drop (offN 0 (mulN ((j : Int)).toNat 1)))[0]? = some (.str e.name) := by
              rw [txC_f (show j < (es2.map JE.name).length by simpa using hjl), hee]; simp
            have hS := State_ok s5 3 2 t bn2 es2 e.name hL5
            rw [st_of h3.b hem] at hS
            have hS : CallOk cx 21 [.ptr 3 0 0, .str e.name] s5 (fun o s => o = .ret (.tup [.int .i64 e.st, .int .i64 e.tried]) ∧ s = s5) := hS
            refine pao [.b true, .v .top, .v (.str e.name), .k (.tup [.int .i64 e.st, .int .i64 e.tried])] rfl ?_ ?_
            · (repeat' with_reducible apply AllP_cons) <;> try exact aC
              · exact OpSpec.loadE rfl rfl rfl rfl c4 hnx
            obtain ⟨cnt, hcnt⟩ : ∃ cnt : Nat → Nat, cnt = fun m => (out.take m).countP (fun x => x.job == e.name) := ⟨_, rfl⟩
            have hc0 : cnt 0 = 0 := by rw [hcnt]; rfl
            have hcl : ∀ m, cnt m ≤ out.length := fun m => by
              rw [hcnt]
              exact Nat.le_trans List.countP_le_length (List.length_take_le' ..)
            have hcs : ∀ m (hm : m < out.length), cnt (m + 1) = cnt m + if out[m].job == e.name then 1 else 0 := fun m hm => by
              rw [hcnt]
              show (out.take (m + 1)).countP _ = (out.take m).countP _ + _
              rw [List.take_succ_eq_append_getElem hm, List.countP_append, List.countP_singleton]
            have hce : cnt out.length = e.till.length := by
              rw [hcnt]
              show (out.take out.length).countP _ = _
              rw [List.take_length, hpo.countP_eq]
              exact many_of h3.b.nn e hem
            refine S_while (α := Nat) (fun m => [(1, .sl true false 5 (callsA l)), (2, .ptr 0 0 0), (5, .ptr 3 0 0), (7, .int .i64 n'), (8, .ms 4 es2.length 0 es2.length 1 false), (9, .ms 5 dn2.length 0 dn2.length 1 false), (10, .int .i64 (i : Nat)), (13, .ms w wv 0 out.length 3 false), (17, .int .i64 (j : Nat)), (18, .int .i64 e.st), (19, .int .i64 e.tried), (20, .int .i64 (cnt m : Nat)), (21, .int .i64 (m : Nat))]) (fun _ => s5) (fun m => m ≤ out.length) (fun m => out.length - m) 0
              (Nat.zero_le _) (.cons rfl (.cons rfl (.cons rfl (.cons rfl (.cons rfl (.cons rfl (.cons rfl (.cons rfl (.cons rfl (.cons rfl (.cons rfl (.cons (by rw [hc0]; rfl) (.cons rfl (.nil _)))))))))))))) rfl ?_
            intro m hm
            by_cases hml : m < out.length
            · have g2 : decide ((m : Int) < (out.length : Int)) = true := decide_eq_true (by omega)
              have hm1 : AV.int .i64 (IntKind.i64.wrap ((m : Int) + 1)) = .int .i64 ((m + 1 : Nat) : Int) := ai64 rfl (by omega)
              have hx0 := lsC_f hml 0 (by decide)
              have hcm := hcs m hml
              refine pao [.b true] rfl ?_ ?_
              · (repeat' with_reducible apply AllP_cons) <;> try exact aC
              refine S_drawO 10 [.top, .str out[m].job, .top, .str e.name] rfl rfl rfl rfl ?_ ?_
              · (repeat' with_reducible apply AllP_cons) <;> try exact aC
                · exact OpSpec.loadE rfl rfl rfl rfl hgw hx0
                · exact OpSpec.loadE rfl rfl rfl rfl c4 hnx
              cases hb : out[m].job == e.name with
              | true =>
                rw [hb, if_pos rfl] at hcm
                have hc1 : AV.int .i64 (IntKind.i64.wrap (((cnt m : Nat) : Int) + 1)) = .int .i64 ((cnt (m + 1) : Nat) : Int) := ai64 (by rw [hcm]; rfl) (by have := hcl (m + 1); omega)
                refine pao [.b true] rfl ?_ ?_
                · (repeat' with_reducible apply AllP_cons) <;> try exact aC
                exact S_round (m + 1) (by show out.length - (m + 1) < out.length - m; omega) hml (.cons rfl (.cons rfl (.cons rfl (.cons rfl (.cons rfl (.cons rfl (.cons rfl (.cons rfl (.cons rfl (.cons rfl (.cons rfl (.cons hc1 (.cons hm1 (.nil _)))))))))))))) rfl
              | false =>
                rw [hb, if_neg (by simp)] at hcm
                have hc1 : AV.int .i64 ((cnt m : Nat) : Int) = .int .i64 ((cnt (m + 1) : Nat) : Int) := by rw [hcm]; rfl
                refine pao [.b false] rfl ?_ ?_
                · (repeat' with_reducible apply AllP_cons) <;> try exact aC
                exact S_round (m + 1) (by show out.length - (m + 1) < out.length - m; omega) hml (.cons rfl (.cons rfl (.cons rfl (.cons rfl (.cons rfl (.cons rfl (.cons rfl (.cons rfl (.cons rfl (.cons rfl (.cons rfl (.cons hc1 (.cons hm1 (.nil _)))))))))))))) rfl
            · have g2 : decide ((m : Int) < (out.length : Int)) = false := decide_eq_false (by omega)
              have hmm : m = out.length := Nat.le_antisymm hm (Nat.le_of_not_lt hml)
              subst hmm
              have q3 : decide (e.tried > t.tries) = false := decide_eq_false (by have := heo.t1; omega)
              have q4 : decide (((cnt out.length : Nat) : Int) > t.twins) = false := decide_eq_false (by rw [hce]; have := heo.tw; omega)
              have q5 : ((e.st == 2) != decide (((cnt out.length : Nat) : Int) > 0)) = false := by
                rw [hce]
                by_cases h2 : e.st = 2
                · have := List.length_pos_iff.2 (heo.le h2)
                  rw [show (e.st == 2) = true by simp [h2], decide_eq_true (by omega)]; rfl
                · have h0 : e.till = [] := by
                    cases hl0 : e.till with
                    | nil => rfl
                    | cons a b => exact absurd (heo.ho (by rw [hl0]; simp)).1 h2
                  rw [show (e.st == 2) = false by simp [h2], h0]; rfl
              have hHT := HasText_ok (st := false) (fl := false) dn2 e.name (by omega)
              have hgb : boxAt s5 5 = some (dn2.length, texts dn2, ⟨false, none⟩) := by simp [boxAt, c5]
              cases hdc : dn2.contains e.name with
              | false =>
                rw [hdc] at hHT
                refine pao [.b false, .v (.int .i64 t.tries), .b false, .v (.int .i64 t.twins), .b false, .b false, .v .top, .v (.str e.name), .v (.bool false), .b false, .b false] rfl ?_ ?_
                · (repeat' with_reducible apply AllP_cons) <;> try exact aC
                  · exact OpSpec.loadP rfl rfl rfl rfl c0 rfl
                  · exact OpSpec.loadP rfl rfl rfl rfl c0 rfl
                  · exact OpSpec.loadE rfl rfl rfl rfl c4 hnx
                  · exact ⟨_, hHT, .cons (Frz.ms1 hgb (texts_one _) (texts_len _) (texts_any _)) (.cons (.refl .str) (.nil _))⟩
                exact S_round (j + 1) (by show es2.length - (j + 1) < es2.length - j; omega) hjl (.cons rfl (.cons rfl (.cons rfl (.cons rfl (.cons rfl (.cons rfl (.cons rfl (.cons rfl (.cons hj1 (.nil _)))))))))) rfl
              | true =>
                rw [hdc] at hHT
                have hst3 : e.st = 3 := by
                  obtain ⟨x, hx, hx1, hx2⟩ := h3.dk e.name (by simpa using hdc)
                  obtain ⟨a, ha, rfl⟩ := List.getElem_of_mem hx
                  obtain ⟨b, hb', rfl⟩ := List.getElem_of_mem hem
                  have := nodup_inj h3.b.nn (i := a) (k := b) (by simpa using ha) (by simpa using hb') (by simpa using hx1)
                  subst this; exact hx2
                have q6 : (e.st != 3) = false := by simp [hst3]
                refine pao [.b false, .v (.int .i64 t.tries), .b false, .v (.int .i64 t.twins), .b false, .b false, .v .top, .v (.str e.name), .v (.bool true), .b true, .b false] rfl ?_ ?_
                · (repeat' with_reducible apply AllP_cons) <;> try exact aC
                  · exact OpSpec.loadP rfl rfl rfl rfl c0 rfl
                  · exact OpSpec.loadP rfl rfl rfl rfl c0 rfl
                  · exact OpSpec.loadE rfl rfl rfl rfl c4 hnx
                  · exact ⟨_, hHT, .cons (Frz.ms1 hgb (texts_one _) (texts_len _) (texts_any _)) (.cons (.refl .str) (.nil _))⟩
                exact S_round (j + 1) (by show es2.length - (j + 1) < es2.length - j; omega) hjl (.cons rfl (.cons rfl (.cons rfl (.cons rfl (.cons rfl (.cons rfl (.cons rfl (.cons rfl (.cons hj1 (.nil _)))))))))) rfl
          · have g1 : decide ((j : Int) < (es2.length : Int)) = false := decide_eq_false (by omega)
            refine pao [.b false] rfl ?_ ?_
            · (repeat' with_reducible apply AllP_cons) <;> try exact aC
            exact S_round ((s5, es2, bn2, n', dn2), i + 1) (by show l.length - (i + 1) < l.length - i; omega) ⟨h5, q0, q1, hd3, hlt1, hlt2⟩ (.cons rfl (.cons rfl (.cons rfl (.cons rfl (.cons rfl (.cons rfl (.cons hi1' (.nil _)))))))) rfl
end Go.Proofs.Ytopdpbcfgjijaaa
end
section
set_option linter.unusedVariables false
set_option linter.unusedSimpArgs false
set_option maxRecDepth 20000
namespace Go.Proofs.Ytopdpbcfgjijaaa
open Go Go.Ab
theorem open_E {H : Type} {d : DataW H} {a : AV} (h : RdD Try.prog 23 d a) : ∃ t : TM, a = termA t := by
  obtain ⟨ds, xs, rfl, rfl, hall⟩ := h.inv_st Try.underlying23
  obtain ⟨d0, ds, x0, xs, rfl, rfl, h0, hall⟩ := hall.cons
  obtain ⟨d1, ds, x1, xs, rfl, rfl, h1, hall⟩ := hall.cons
  obtain ⟨d2, ds, x2, xs, rfl, rfl, h2, hall⟩ := hall.cons
  obtain ⟨rfl, rfl⟩ := hall.nil
  obtain ⟨s0, rfl, rfl, _⟩ := h0.inv_int Try.underlying3
  obtain ⟨s1, rfl, rfl, _⟩ := h1.inv_int Try.underlying3
  obtain ⟨s2, rfl, rfl, _⟩ := h2.inv_int Try.underlying3
  exact ⟨⟨s0, s1, s2⟩, rfl⟩
end Go.Proofs.Ytopdpbcfgjijaaa
end
section
set_option linter.unusedVariables false
set_option linter.unusedSimpArgs false
set_option maxRecDepth 20000
namespace Go.Proofs.Ytopdpbcfgjijaaa
open Go Go.Ab
theorem open_call {H : Type} {d : DataW H} {a : AV} (h : RdD Try.prog 38 d a) : ∃ f : CL, a = callA f ∧ f.wf := by
  obtain ⟨ds, xs, rfl, rfl, hall⟩ := h.inv_st Try.underlying38
  obtain ⟨d0, ds, x0, xs, rfl, rfl, h0, hall⟩ := hall.cons
  obtain ⟨d1, ds, x1, xs, rfl, rfl, h1, hall⟩ := hall.cons
  obtain ⟨d2, ds, x2, xs, rfl, rfl, h2, hall⟩ := hall.cons
  obtain ⟨d3, ds, x3, xs, rfl, rfl, h3, hall⟩ := hall.cons
  obtain ⟨d4, ds, x4, xs, rfl, rfl, h4, hall⟩ := hall.cons
  obtain ⟨rfl, rfl⟩ := hall.nil
  obtain ⟨s0, rfl, rfl, w0⟩ := h0.inv_int Try.underlying3
  obtain ⟨s1, rfl, rfl, w1⟩ := h1.inv_int Try.underlying3
  obtain ⟨s2, rfl, rfl, w2⟩ := h2.inv_int Try.underlying3
  obtain ⟨s3, rfl, rfl, w3⟩ := h3.inv_str Try.underlying9
  obtain ⟨b, rfl, rfl⟩ := h4.inv_bool Try.underlying4
  have i64 : ∀ {s : Int}, Lit.wf (.int .i64 s) → -9223372036854775808 ≤ s ∧ s ≤ 9223372036854775807 := fun w => by simpa [Lit.wf, IntKind.min, IntKind.max, IntKind.signed, IntKind.bits] using w
  exact ⟨⟨s0, s1, s2, s3, b⟩, rfl, i64 w0, i64 w1, i64 w2⟩
theorem open_K {H : Type} {d : DataW H} {a : AV} (h : RdD Try.prog 24 d a) : ∃ l : List CL, a = .sl true false 5 (callsA l) ∧ ∀ j ∈ l, j.wf := by
  obtain ⟨ds, xs, rfl, hl, hm, hall, _⟩ := h.inv_sl Try.underlying24
  obtain ⟨ys, rfl, hy, hg⟩ := RdD.each callA (fun j _ => j.wf) hl hall (fun d x h => by
    obtain ⟨f, rfl, hf⟩ := open_call h
    exact ⟨f, rfl, hf⟩)
  have hc : Try.prog.cellsOf 38 = 5 := by kernel_rfl
  exact ⟨ys, by rw [hc]; rfl, fun z hz => by
    obtain ⟨i, hi, rfl⟩ := List.getElem_of_mem hz
    exact hg i (by omega) hi⟩
end Go.Proofs.Ytopdpbcfgjijaaa
end
