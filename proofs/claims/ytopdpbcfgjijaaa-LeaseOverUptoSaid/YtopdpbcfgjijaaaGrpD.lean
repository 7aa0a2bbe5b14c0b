/-
  Texts of our own, in one file.
-/
import Derived.Test.YtopdpbcfgjijaaaGrpC
import Derived.WalkKit
import Derived.Lib.Walk
import Derived.StillTailTactics
import Derived.Sort.Grow
import Derived.Shelf.SlSortCmp.InsertionK
import Derived.Shelf.SlSortCmp.WholeK
import Derived.WideShapes
section
set_option linter.unusedVariables false
set_option linter.unusedSimpArgs false
set_option maxRecDepth 20000
set_option maxHeartbeats 4000000
namespace Go.Proofs.Ytopdpbcfgjijaaa
open Go Go.Ab
def fndL (T : List JE) (s : Nm) (w : Int) : Option Nat := match atL T s with
  | none => none
  | some i => match T[i]? with
    | none => none
    | some e => match hasW e.till w with
      | none => none
      | some _ => some i
def ptrL (T : List JE) : Option Nat → AV
  | none => .tup [.nilp, .int .i64 5]
  | some i => match T[i]? with
    | none => .tup [.nilp, .int .i64 5]
    | some e => .tup [.ptr e.jid 0 0, .int .i64 0]
theorem fndL_some {T : List JE} {s : Nm} {w : Int} {i : Nat} (h : fndL T s w = some i) : ∃ hi : i < T.length, ∃ j, hasW T[i].till w = some j ∧ atL T s = some i := by
  unfold fndL at h
  cases ha : atL T s with
  | none => rw [ha] at h; cases h
  | some k =>
    obtain ⟨hk, _⟩ := atL_some ha
    rw [ha] at h
    simp only [List.getElem?_eq_getElem hk] at h
    cases hh : hasW T[k].till w with
    | none => rw [hh] at h; cases h
    | some j => rw [hh] at h; cases h; exact ⟨hk, j, hh, rfl⟩
theorem held_bad (σ : Heap) (q mid : Nat) (t : TM) (now n w : Int) (es : List JE) (name : Nm) (h : LAt σ q mid none t now es) (he : errT n now [w] ≠ 0) :
    CallOk cx 32 [.ptr q 0 0, .str name, .int .i64 w, .int .i64 n] σ (fun o s => o = .ret (.tup [.nilp, .int .i64 (errT n now [w])]) ∧ s = σ) :=
  callOk_intro (fun a w => Try.call32 a w) Try.func32 rfl Try.ntmps32 rfl fun B => by
    have hT := time_bad σ q mid t now n es (.sl true true 1 (intsA [w])) [w] h (.inr ⟨_, _, rfl⟩) (by simp) he
    have c1 : (errT n now [w] != 0) = true := by simp [he]
    refine pao [.k (.tup [.nils, .int .i64 (errT n now [w])]), .b true] rfl ?_ ?_
    · (repeat' with_reducible apply AllP_cons) <;> try exact aC
    exact S_ret ⟨_, _, rfl, trivial, rfl, rfl⟩
theorem held_ok (σ : Heap) (q mid : Nat) (t : TM) (now n w : Int) (es : List JE) (name : Nm) (h : LAt σ q mid none t now es) (hb : BdOk t es) (he : errT n now [w] = 0) :
    CallOk cx 32 [.ptr q 0 0, .str name, .int .i64 w, .int .i64 n] σ (fun o s => o = .ret (ptrL (es.map (tickE t.tries n)) (fndL (es.map (tickE t.tries n)) name w)) ∧ LAt s q mid none t n (es.map (tickE t.tries n)) ∧ QKeep σ s (OwnL q mid es) (OwnL q mid es)) :=
  callOk_intro (fun a w => Try.call32 a w) Try.func32 rfl Try.ntmps32 rfl fun B => by
    have hT := time_ok σ q mid t now n es (.sl true true 1 (intsA [w])) [w] h hb.tl (.inr ⟨_, _, rfl⟩) (by simp) hb.el he
    refine pao [] rfl ?_ ?_
    · (repeat' with_reducible apply AllP_cons) <;> try exact aC
    refine S_call rfl rfl rfl hT (fun v s hR => ?_) (fun v s hR => by obtain ⟨w, wv, hR, _⟩ := hR; cases hR)
    obtain ⟨ow, wv, hR, _, _, hL, hK⟩ := hR
    cases hR
    generalize es.map (tickE t.tries n) = T at *
    cases ha : atL T name with
    | none =>
      have hf : fndL T name w = none := by unfold fndL; rw [ha]
      rw [hf]
      refine pao [.b false, .v (.map mid 0), .v (.tup [.nilp, .bool false]), .b true] rfl ?_ ?_
      · (repeat' with_reducible apply AllP_cons) <;> try exact aC
        · exact OpSpec.loadP rfl rfl rfl rfl hL.qb rfl
        · exact OpSpec.lookG (a := .str name) none rfl rfl rfl rfl rfl hL.mb (by rw [findE0, hitE_none ha]) rfl rfl
      exact S_ret ⟨_, _, rfl, trivial, rfl, hL, hK⟩
    | some i =>
      obtain ⟨hi, hn⟩ := atL_some ha
      have hge : T[i]? = some T[i] := List.getElem?_eq_getElem hi
      have hm := List.getElem_mem hi
      have hj := hL.jb _ hm
      have ht := hL.tb _ hm
      cases hh : hasW T[i].till w with
      | none =>
        have hlk : lookW T[i].till w = .tup [.int .i64 0, .bool false] := by unfold lookW; rw [hh]
        have hf : fndL T name w = none := by unfold fndL; rw [ha]; simp only [hge, hh]
        rw [hf]
        refine pao [.b false, .v (.map mid 0), .v (.tup [.ptr T[i].jid 0 0, .bool true]), .b false, .v (.map T[i].tid 0), .v (.tup [.int .i64 0, .bool false]), .b true] rfl ?_ ?_
        · (repeat' with_reducible apply AllP_cons) <;> try exact aC
          · exact OpSpec.loadP rfl rfl rfl rfl hL.qb rfl
          · exact OpSpec.lookG (a := .str name) (z := .nilp) (some (i, .ptr T[i].jid 0 0)) rfl rfl rfl rfl rfl hL.mb (by rw [findE0, hitE_some ha hi]) rfl rfl
          · exact OpSpec.loadP rfl rfl rfl rfl hj rfl
          · rw [← hlk]; exact lookW_spec rfl rfl rfl rfl rfl rfl ht
        exact S_ret ⟨_, _, rfl, trivial, rfl, hL, hK⟩
      | some j =>
        have hlk : lookW T[i].till w = .tup [.int .i64 (T[i].till.getD j (0, 0)).2, .bool true] := by unfold lookW; rw [hh]
        have hf : fndL T name w = some i := by unfold fndL; rw [ha]; simp only [hge, hh]
        have hp : ptrL T (some i) = .tup [.ptr T[i].jid 0 0, .int .i64 0] := by unfold ptrL; simp only [hge]
        rw [hf, hp]
        refine pao [.b false, .v (.map mid 0), .v (.tup [.ptr T[i].jid 0 0, .bool true]), .b false, .v (.map T[i].tid 0), .v (.tup [.int .i64 (T[i].till.getD j (0, 0)).2, .bool true]), .b false] rfl ?_ ?_
        · (repeat' with_reducible apply AllP_cons) <;> try exact aC
          · exact OpSpec.loadP rfl rfl rfl rfl hL.qb rfl
          · exact OpSpec.lookG (a := .str name) (z := .nilp) (some (i, .ptr T[i].jid 0 0)) rfl rfl rfl rfl rfl hL.mb (by rw [findE0, hitE_some ha hi]) rfl rfl
          · exact OpSpec.loadP rfl rfl rfl rfl hj rfl
          · rw [← hlk]; exact lookW_spec rfl rfl rfl rfl rfl rfl ht
        exact S_ret ⟨_, _, rfl, trivial, rfl, hL, hK⟩
def beE (t : TM) (n w : Int) (e : JE) : JE := { e with till := match hasW e.till w with
  | some j => e.till.set j (w, n + t.last)
  | none => e.till }
def dlE (w : Int) (e : JE) : JE := { e with till := match hasW e.till w with
  | some j => e.till.eraseIdx j
  | none => e.till }
def dnE (t : TM) (w : Int) (good : Bool) (e : JE) : JE := match good with
  | true => { e with st := 3, till := [] }
  | false => freeE t.tries (dlE w e)
def actS (f : JE → JE) (t : TM) (now n w : Int) (s : Nm) (es : List JE) : Int × Int × List JE :=
  if errT n now [w] = 0 then
    match fndL (es.map (tickE t.tries n)) s w with
    | none => (5, n, es.map (tickE t.tries n))
    | some i => match (es.map (tickE t.tries n))[i]? with
      | none => (5, n, es.map (tickE t.tries n))
      | some e => (0, n, (es.map (tickE t.tries n)).set i (f e))
  else (errT n now [w], now, es)
theorem hitI_of {l : List (Int × Int)} {w : Int} {j : Nat} (h : hasW l w = some j) : hitI l w = some (j, .int .i64 (l.getD j (0, 0)).2) := by
  unfold hitI; unfold hasW at h; rw [h]; rfl
theorem Beat_ok (σ : Heap) (q mid : Nat) (t : TM) (now n w : Int) (es : List JE) (name : Nm) (h : LAt σ q mid none t now es) (hb : BdOk t es) :
    CallOk cx 14 [.ptr q 0 0, .str name, .int .i64 w, .int .i64 n] σ (fun o s => o = .ret (.int .i64 (codeS (actS (beE t n w) t now n w name es))) ∧ LAt s q mid none t (nowS (actS (beE t n w) t now n w name es)) (esS (actS (beE t n w) t now n w name es)) ∧ QKeep σ s (OwnL q mid es) (OwnL q mid es)) :=
  callOk_intro (fun a w => Try.call14 a w) Try.func14 rfl Try.ntmps14 rfl fun B => by
    by_cases he : errT n now [w] = 0
    · have hH := held_ok σ q mid t now n w es name h hb he
      obtain ⟨hn0, hn1, _⟩ := errT_n he
      unfold actS
      rw [if_pos he]
      obtain ⟨T, hTd⟩ : ∃ T, T = es.map (tickE t.tries n) := ⟨_, rfl⟩
      have hown : OwnL q mid T = OwnL q mid es := by rw [hTd]; exact own_map _ fun e => ⟨(tickE_jid _ _ e).1, (tickE_jid _ _ e).2.1⟩
      rw [← hTd] at hH ⊢
      refine pao [] rfl ?_ ?_
      · (repeat' with_reducible apply AllP_cons) <;> try exact aC
      refine S_call rfl rfl rfl hH (fun v s hR => ?_) (fun v s hR => by obtain ⟨hR, _⟩ := hR; cases hR)
      obtain ⟨hR, hL, hK⟩ := hR
      cases hR
      cases hf : fndL T name w with
      | none =>
        refine pao [.b false] rfl ?_ ?_
        · (repeat' with_reducible apply AllP_cons) <;> try exact aC
        exact S_ret ⟨_, _, rfl, trivial, rfl, hL, hK⟩
      | some i =>
        obtain ⟨hi, j, hh, _⟩ := fndL_some hf
        have hge : T[i]? = some T[i] := List.getElem?_eq_getElem hi
        have hp : ptrL T (some i) = .tup [.ptr T[i].jid 0 0, .int .i64 0] := by unfold ptrL; simp only [hge]
        rw [hp]
        simp only [hge]
        have hm := List.getElem_mem hi
        obtain ⟨e, hee⟩ : ∃ e, e = T[i] := ⟨_, rfl⟩
        rw [← hee] at hm hh ⊢
        have hj := hL.jb e hm
        have ht := hL.tb e hm
        have ap := hL.ap hm
        obtain ⟨T2, hT2⟩ : ∃ T2 : Nat × Option Box, T2 = (0, some (.map (tilK (beE t n w e).till) none)) := ⟨_, rfl⟩
        refine pao [.b true] rfl ?_ ?_
        · (repeat' with_reducible apply AllP_cons) <;> try exact aC
        refine S_drawO 12 [.map e.tid 0, .int .i64 t.last] rfl rfl rfl rfl ?_ ?_
        · (repeat' with_reducible apply AllP_cons) <;> try exact aC
          · exact OpSpec.loadP rfl rfl rfl rfl hj rfl
          · exact OpSpec.loadP rfl rfl rfl rfl hL.qb rfl
        refine pao [.f (.tup []) (fun s => s.set e.tid T2)] rfl ?_ ?_
        · (repeat' with_reducible apply AllP_cons) <;> try exact aC
          · refine OpSpec.putG (a := .int .i64 w) (v := .int .i64 (n + t.last)) (hitI e.till w) rfl rfl rfl rfl rfl ?_ ht (by rw [findI0]) ?_
            · show AV.int .i64 (IntKind.i64.wrap (n + t.last)) = _
              exact ai64i rfl ⟨by have := hb.l1; omega, by have := hb.l2; omega⟩
            · rw [hitI_of hh, hT2]
              show List.set _ _ (0, some (Box.map ((tilK e.till).set j (.int .i64 w, .int .i64 (n + t.last))) none)) = _
              have : (tilK e.till).set j (AV.int .i64 w, AV.int .i64 (n + t.last)) = tilK (beE t n w e).till := by unfold beE; simp only [hh]; unfold tilK; rw [List.map_set]
              rw [this]
        refine S_ret ⟨_, _, rfl, trivial, rfl, ?_, ?_⟩
        · have := hL.job1 hi (beE t n w e) (by rw [← hee]; rfl) (by rw [← hee]; rfl) (by rw [← hee]; rfl)
          rw [← hee] at this
          rw [show s.set e.jid (0, some (jobB (beE t n w e))) = s from set_self hj] at this
          show LAt (s.set e.tid T2) q mid none t n (T.set i (beE t n w e))
          rw [hT2]; exact this
        · exact hK.setO (by rw [← hown]; exact own_t hm) _
    · have hH := held_bad σ q mid t now n w es name h he
      unfold actS
      rw [if_neg he]
      have c1 : (errT n now [w] == 0) = false := by simp [he]
      refine pao [.k (.tup [.nilp, .int .i64 (errT n now [w])]), .b false] rfl ?_ ?_
      · (repeat' with_reducible apply AllP_cons) <;> try exact aC
      exact S_ret ⟨_, _, rfl, trivial, rfl, h, QKeep.refl⟩
theorem Done_ok (σ : Heap) (q mid : Nat) (t : TM) (now n w : Int) (es : List JE) (name : Nm) (good : Bool) (h : LAt σ q mid none t now es) (hb : BdOk t es) :
    CallOk cx 16 [.ptr q 0 0, .str name, .int .i64 w, .int .i64 n, .bool good] σ (fun o s => o = .ret (.int .i64 (codeS (actS (dnE t w good) t now n w name es))) ∧ LAt s q mid none t (nowS (actS (dnE t w good) t now n w name es)) (esS (actS (dnE t w good) t now n w name es)) ∧ QKeep σ s (OwnL q mid es) (OwnL q mid es)) :=
  callOk_intro (fun a w => Try.call16 a w) Try.func16 rfl Try.ntmps16 rfl fun B => by
    by_cases he : errT n now [w] = 0
    · have hH := held_ok σ q mid t now n w es name h hb he
      unfold actS
      rw [if_pos he]
      obtain ⟨T, hTd⟩ : ∃ T, T = es.map (tickE t.tries n) := ⟨_, rfl⟩
      have hown : OwnL q mid T = OwnL q mid es := by rw [hTd]; exact own_map _ fun e => ⟨(tickE_jid _ _ e).1, (tickE_jid _ _ e).2.1⟩
      rw [← hTd] at hH ⊢
      refine pao [] rfl ?_ ?_
      · (repeat' with_reducible apply AllP_cons) <;> try exact aC
      refine S_call rfl rfl rfl hH (fun v s hR => ?_) (fun v s hR => by obtain ⟨hR, _⟩ := hR; cases hR)
      obtain ⟨hR, hL, hK⟩ := hR
      cases hR
      cases hf : fndL T name w with
      | none =>
        refine pao [.b true] rfl ?_ ?_
        · (repeat' with_reducible apply AllP_cons) <;> try exact aC
        exact S_ret ⟨_, _, rfl, trivial, rfl, hL, hK⟩
      | some i =>
        obtain ⟨hi, j, hh, _⟩ := fndL_some hf
        have hge : T[i]? = some T[i] := List.getElem?_eq_getElem hi
        have hp : ptrL T (some i) = .tup [.ptr T[i].jid 0 0, .int .i64 0] := by unfold ptrL; simp only [hge]
        rw [hp]
        simp only [hge]
        have hm := List.getElem_mem hi
        obtain ⟨e, hee⟩ : ∃ e, e = T[i] := ⟨_, rfl⟩
        rw [← hee] at hm hh ⊢
        have hj := hL.jb e hm
        have ht := hL.tb e hm
        have ap := hL.ap hm
        cases good with
        | true =>
          obtain ⟨J1, hJ1⟩ : ∃ J1 : Nat × Option Box, J1 = (0, some (jobB (dnE t w true e))) := ⟨_, rfl⟩
          obtain ⟨T2, hT2⟩ : ∃ T2 : Nat × Option Box, T2 = (0, some (.map (tilK (dnE t w true e).till) none)) := ⟨_, rfl⟩
          have hj1 : (s.set e.jid J1)[e.jid]? = some (0, some (jobB (dnE t w true e))) := by rw [set_eq hj, hJ1]
          have ht1 : (s.set e.jid J1)[e.tid]? = some (0, some (.map (tilK e.till) none)) := by rw [set_ne ap.jt.symm]; exact ht
          refine pao [.b false, .b true, .f (.tup []) (fun s => s.set e.jid J1), .v (.map e.tid 0), .f (.tup []) (fun s => s.set e.tid T2)] rfl ?_ ?_
          · (repeat' with_reducible apply AllP_cons) <;> try exact aC
            · exact OpSpec.storeP (id := e.jid) (gT := some 65) (cs := [.int .i64 e.st, .int .i64 e.tried, .map e.tid 0]) rfl rfl rfl rfl rfl rfl hj (lble rfl) (by rw [hJ1]; rfl)
            · exact OpSpec.loadP rfl rfl rfl rfl hj1 rfl
            · exact OpSpec.clearG rfl rfl rfl ht1 (by rw [hT2]; rfl)
          refine S_ret ⟨_, _, rfl, trivial, rfl, ?_, ?_⟩
          · have := hL.job1 hi (dnE t w true e) (by rw [← hee]; rfl) (by rw [← hee]; rfl) (by rw [← hee]; rfl)
            rw [← hee] at this
            show LAt ((s.set e.jid J1).set e.tid T2) q mid none t n (T.set i (dnE t w true e))
            rw [hJ1, hT2]; exact this
          · exact (hK.setO (by rw [← hown]; exact own_j hm) _).setO (by rw [← hown]; exact own_t hm) _
        | false =>
          obtain ⟨T2, hT2⟩ : ∃ T2 : Nat × Option Box, T2 = (0, some (.map (tilK (dlE w e).till) none)) := ⟨_, rfl⟩
          obtain ⟨J2, hJ2⟩ : ∃ J2 : Nat × Option Box, J2 = (0, some (jobB (dnE t w false e))) := ⟨_, rfl⟩
          have hL2 : LAt (s.set e.tid T2) q mid none t n (T.set i (dlE w e)) := by
            have := hL.job1 hi (dlE w e) (by rw [← hee]; rfl) (by rw [← hee]; rfl) (by rw [← hee]; rfl)
            rw [← hee] at this
            rw [show s.set e.jid (0, some (jobB (dlE w e))) = s from set_self hj] at this
            rw [hT2]; exact this
          have hi2 : i < (T.set i (dlE w e)).length := by rw [List.length_set]; exact hi
          have hgs : (T.set i (dlE w e))[i] = dlE w e := List.getElem_set_self ..
          have hF := free_ok (s.set e.tid T2) q mid none t n _ hL2 i hi2
          rw [hgs] at hF
          have hF : CallOk cx 33 [.ptr q 0 0, .ptr e.jid 0 0] (s.set e.tid T2) (fun o u => o = .ret (.bool (frees (dlE w e))) ∧ u = (s.set e.tid T2).set e.jid J2) := by rw [hJ2]; exact hF
          refine pao [.b false, .b false, .v (.map e.tid 0), .f (.tup []) (fun s => s.set e.tid T2), .f (.bool (frees (dlE w e))) (fun u => u.set e.jid J2)] rfl ?_ ?_
          · (repeat' with_reducible apply AllP_cons) <;> try exact aC
            · exact OpSpec.loadP rfl rfl rfl rfl hj rfl
            · refine OpSpec.delG (a := .int .i64 w) (hitI e.till w) rfl rfl rfl rfl rfl ht (by rw [findI0]) ?_
              rw [hitI_of hh, hT2]
              show List.set _ _ (0, some (Box.map ((tilK e.till).eraseIdx j) none)) = _
              have : (tilK e.till).eraseIdx j = tilK (dlE w e).till := by unfold dlE; simp only [hh]; unfold tilK; rw [eraseIdx_map']
              rw [this]
          obtain ⟨f1, f2, f3, f4, f5⟩ := freeE_jid t.tries (dlE w e)
          refine S_ret ⟨_, _, rfl, trivial, rfl, ?_, ?_⟩
          · have := hL2.job1 hi2 (dnE t w false e) (by rw [hgs]; exact f1) (by rw [hgs]; exact f2) (by rw [hgs]; exact f3)
            rw [hgs, List.set_set] at this
            have h6 : (s.set e.tid T2)[e.tid]? = some T2 := set_eq ht
            have h7 : ((s.set e.tid T2).set (dlE w e).jid (0, some (jobB (dnE t w false e))))[e.tid]? = some (0, some (.map (tilK (dnE t w false e).till) none)) := by
              show ((s.set e.tid T2).set e.jid _)[e.tid]? = _
              rw [set_ne ap.jt.symm, h6, hT2]
              show _ = some (0, some (Box.map (tilK (freeE t.tries (dlE w e)).till) none))
              rw [f4]
            have h8 := set_self h7
            have this : LAt (((s.set e.tid T2).set (dlE w e).jid (0, some (jobB (dnE t w false e)))).set e.tid (0, some (.map (tilK (dnE t w false e).till) none))) q mid none t n (T.set i (dnE t w false e)) := this
            rw [h8] at this
            show LAt ((s.set e.tid T2).set e.jid J2) q mid none t n (T.set i (dnE t w false e))
            rw [hJ2]; exact this
          · exact (hK.setO (by rw [← hown]; exact own_t hm) _).setO (by rw [← hown]; exact own_j hm) _
    · have hH := held_bad σ q mid t now n w es name h he
      unfold actS
      rw [if_neg he]
      have c1 : (errT n now [w] != 0) = true := by simp [he]
      refine pao [.k (.tup [.nilp, .int .i64 (errT n now [w])]), .b true] rfl ?_ ?_
      · (repeat' with_reducible apply AllP_cons) <;> try exact aC
      exact S_ret ⟨_, _, rfl, trivial, rfl, h, QKeep.refl⟩
end Go.Proofs.Ytopdpbcfgjijaaa
end
section
set_option linter.unusedVariables false
set_option linter.unusedSimpArgs false
set_option maxRecDepth 20000
set_option maxHeartbeats 4000000
namespace Go.Proofs.Ytopdpbcfgjijaaa
open Go Go.Ab Go.RowKit
theorem bl_eq (x y : List UInt8) : Op.bytesLess x y = decide (x < y) := by
  induction x generalizing y with
  | nil => cases y <;> simp [Op.bytesLess]
  | cons a x ih =>
    cases y with
    | nil => simp [Op.bytesLess]
    | cons b y =>
      rw [Op.bytesLess, ih y, Bool.eq_iff_iff]
      simp only [List.cons_lt_cons_iff, Bool.or_eq_true, Bool.and_eq_true, decide_eq_true_eq, beq_iff_eq]
theorem isNaN_c (x : ByteArray) (W : World) : Calls Try.prog 48 #[.string x] W fun e w' => e = .returned (.bool false) ∧ w' = W := by
  go_enter Try.func48, Try.ntmps48
  go_wp2
  go_ret
  exact ⟨rfl, rfl⟩
theorem isNaNI_c (x : Int) (W : World) : Calls Try.prog 49 #[.int .i64 x] W fun e w' => e = .returned (.bool false) ∧ w' = W := by
  go_enter Try.func49, Try.ntmps49
  go_wp2
  go_ret
  exact ⟨by simp, rfl⟩
def cmpT (a b : List UInt8) : Int := if a < b then -1 else if b < a then 1 else 0
def cmpI (a b : Int) : Int := if a < b then -1 else if b < a then 1 else 0
theorem bt (x : ByteArray) : x.toList = x.data.toList := by
  exact ByteArray.toList_eq x
theorem gtr_run (P : Program) (w : World) (t : TypeId) (x y : ByteArray) : (binOp .gtr t (.string x) (.string y)).run P w = .ok (.bool (Op.bytesLess y.toList x.toList)) w := by
  simp only [binOp, Op.stringOp, Sem.run_pure, Result.ok.injEq, Value.bool.injEq, and_true]
  rw [bt, bt, bl_eq, bl_eq]
  congr 1
  rw [Bool.eq_iff_iff]
  simp only [Bool.not_eq_true', Bool.or_eq_false_iff, decide_eq_false_iff_not, beq_eq_false_iff_ne, decide_eq_true_eq]
  constructor
  · rintro ⟨h1, h2⟩
    rcases Std.lt_trichotomy x.data.toList y.data.toList with h | h | h
    · exact absurd h h1
    · exact absurd h h2
    · exact h
  · intro h
    exact ⟨List.lt_asymm h, fun e => by rw [e] at h; exact absurd h (List.lt_irrefl _)⟩
theorem compare_c (x y : ByteArray) (W : World) : Calls Try.prog 40 #[.string x, .string y] W fun e w' => e = .returned (.int .i64 (cmpT x.data.toList y.data.toList)) ∧ w' = W := by
  go_enter Try.func40, Try.ntmps40
  go_wp2_with (go_at_call 48; refine (isNaN_c _ _).mono ?_; rintro e w' ⟨rfl, rfl⟩)
  · go_ret
    have h1 : x.data.toList < y.data.toList := by
      have := ‹Op.bytesLess x.toList y.toList = true›
      rw [bl_eq] at this
      simpa [bt] using this
    unfold cmpT
    rw [if_pos h1]
    exact ⟨rfl, rfl⟩
  · rw [gtr_run]
    simp only [Result.andThen_ok]
    go_wp2
    · go_ret
      have h0 : ¬ x.data.toList < y.data.toList := by
        have := ‹Op.bytesLess x.toList y.toList = false›
        rw [bl_eq] at this
        simpa [bt] using this
      have h1 : y.data.toList < x.data.toList := by
        have := ‹Op.bytesLess y.toList x.toList = true›
        rw [bl_eq] at this
        simpa [bt] using this
      unfold cmpT
      rw [if_neg h0, if_pos h1]
      exact ⟨rfl, rfl⟩
    · go_ret
      have h0 : ¬ x.data.toList < y.data.toList := by
        have := ‹Op.bytesLess x.toList y.toList = false›
        rw [bl_eq] at this
        simpa [bt] using this
      have h1 : ¬ y.data.toList < x.data.toList := by
        have := ‹Op.bytesLess y.toList x.toList = false›
        rw [bl_eq] at this
        simpa [bt] using this
      unfold cmpT
      rw [if_neg h0, if_neg h1]
      exact ⟨rfl, rfl⟩
theorem compareI_c (x y : Int) (W : World) : Calls Try.prog 41 #[.int .i64 x, .int .i64 y] W fun e w' => e = .returned (.int .i64 (cmpI x y)) ∧ w' = W := by
  go_enter Try.func41, Try.ntmps41
  go_wp2_with (go_at_call 49; refine (isNaNI_c _ _).mono ?_; rintro e w' ⟨rfl, rfl⟩)
  · go_ret
    have h : cmpI x y = -1 := by unfold cmpI; rw [if_pos (by assumption)]
    rw [h]; exact ⟨rfl, rfl⟩
  · go_ret
    have h : cmpI x y = 1 := by unfold cmpI; rw [if_neg (by omega), if_pos (by assumption)]
    rw [h]; exact ⟨rfl, rfl⟩
  · go_ret
    have h : cmpI x y = 0 := by unfold cmpI; rw [if_neg (by omega), if_neg (by omega)]
    rw [h]; exact ⟨rfl, rfl⟩
theorem or_c (b o c : Nat) (r1 r2 : Int) (W : World) (h1 : W.cell? ⟨b, o, none⟩ = some (.int .i64 r1)) (h2 : W.cell? ⟨b, o + 1, none⟩ = some (.int .i64 r2)) :
    Calls Try.prog 39 #[.slice (some ⟨b, o, none⟩) 2 c] W fun e w' => e = .returned (.int .i64 (if r1 ≠ 0 then r1 else r2)) ∧ w' = W := by
  go_enter Try.func39, Try.ntmps39
  go_wp2
  go_loop [8] (fun k => ∃ j : Nat, j ≤ 2 ∧ k = .int .i64 j ∧ (1 ≤ j → r1 = 0) ∧ (2 ≤ j → r2 = 0)) (fun k => 2 - (intOf k).toNat)
  case atStart => exact ⟨0, by omega, rfl, (fun h => absurd h (by omega)), (fun h => absurd h (by omega))⟩
  case round =>
    obtain ⟨j, hj, rfl, k1, k2⟩ := hrel
    rcases (by omega : j = 0 ∨ j = 1 ∨ j = 2) with rfl | rfl | rfl
    · go_wp2
      case roundEnd =>
        have e1 : r1 = 0 := by simpa using ‹(r1 != 0) = false›
        exact ⟨⟨1, by omega, rfl, fun _ => e1, fun h => absurd h (by omega)⟩, by decide⟩
      all_goals
        go_ret
        first
          | (have e1 : r1 ≠ 0 := by simpa using ‹(r1 != 0) = true›
             rw [if_pos e1]
             exact ⟨rfl, rfl⟩)
          | (have e1 : r1 ≠ 0 := by simpa using ‹(r1 != 0) = true›
             exact ⟨rfl, rfl⟩)
          | (exfalso; simp at *; omega)
          | trace_state
    · have e1 : r1 = 0 := k1 (by omega)
      go_wp2
      case roundEnd =>
        have e1 : r2 = 0 := by simpa using ‹(r2 != 0) = false›
        exact ⟨⟨2, by omega, rfl, fun _ => k1 (by omega), fun _ => e1⟩, by decide⟩
      all_goals
        go_ret
        exact ⟨by simp [k1 (by omega)], rfl⟩
    · go_wp2
      go_ret
      exact ⟨by simp [k1 (by omega), k2 (by omega)], rfl⟩
theorem three_c (W : World) (A B C : Obj) : ((((W.alloc A).alloc B).drew).alloc C) = Go.Sort.grow (W.drewN 1) #[A, B, C] := by
  have e : (((W.heap.push A).push B).push C) = W.heap ++ #[A, B, C] := by
    apply Array.ext'
    simp
  show ({ W with heap := ((W.heap.push A).push B).push C, drawn := W.drawn + 1 } : World) = { W with heap := W.heap ++ #[A, B, C], drawn := W.drawn + 1 }
  rw [e]
structure LE where
  job : Nm
  wk : Int
  tl : Int
instance : Inhabited LE := ⟨⟨[], 0, 0⟩⟩
def encL (x : LE) : List Value := [.string ⟨x.job.toArray⟩, .int .i64 x.wk, .int .i64 x.tl]
def cmpL (x y : LE) : Int := if cmpT x.job y.job ≠ 0 then cmpT x.job y.job else cmpI x.wk y.wk
open Go.Lib Go.Sort in
theorem closL_c (f g : LE) (W : World) : Calls Try.prog 38 #[.agg (encL f).toArray, .agg (encL g).toArray] W fun e w' => e = .returned (.int .i64 (cmpL f g)) ∧ ∃ q os', w' = grow (W.drewN q) os' := by
  have hcon := fun W' => compare_c ⟨f.job.toArray⟩ ⟨g.job.toArray⟩ W'
  have hcoi := fun W' => compareI_c f.wk g.wk W'
  unfold cmpL
  generalize hr : cmpT f.job g.job = r
  generalize hri : cmpI f.wk g.wk = ri at *
  have hcon : ∀ W', Calls Try.prog 40 #[.string ⟨f.job.toArray⟩, .string ⟨g.job.toArray⟩] W' fun e w' => e = .returned (.int .i64 r) ∧ w' = W' := by
    intro W'
    have := hcon W'
    simp only [List.toList_toArray, hr] at this
    exact this
  unfold encL
  go_enter Try.func38, Try.ntmps38
  go_wp2
  generalize hW2 : (W.alloc _).alloc _ = W2
  refine wp_region_still_tail 10 (by kernel_rfl) (by kernel_rfl) ?_
  change wpStill _ _ (World.drew W2) _ _ _
  generalize hW3 : World.drew W2 = W3
  have f0 : W3.cell? ⟨W.heap.size, 0, none⟩ = some (.string ⟨f.job.toArray⟩) := by subst hW3; subst hW2; simp
  have f1 : W3.cell? ⟨W.heap.size, 1, none⟩ = some (.int .i64 f.wk) := by subst hW3; subst hW2; simp
  have g0 : W3.cell? ⟨W.heap.size + 1, 0, none⟩ = some (.string ⟨g.job.toArray⟩) := by subst hW3; subst hW2; simp
  have g1 : W3.cell? ⟨W.heap.size + 1, 1, none⟩ = some (.int .i64 g.wk) := by subst hW3; subst hW2; simp
  simp only [List.take_succ_cons, List.take_zero, List.drop_succ_cons, List.drop_zero]
  still_step
  still_step
  still_step
  still_step
  still_call (hcon _)
  still_step
  still_step
  still_step
  still_step
  still_call (hcoi _)
  refine wpStill_nil ?_
  clear f0 f1 g0 g1 hr hri
  first
    | change wpList _ _ _ _ _ W3
    | (change wpList _ _ _ _ _ (World.drew W2); rw [hW3])
  go_wp2_with (go_at_call 39; refine (or_c _ _ _ r ri _ (by simp) (by simp)).mono ?_; rintro e w' ⟨rfl, rfl⟩)
  all_goals
    go_ret
    subst hW3
    subst hW2
    exact ⟨rfl, 1, _, three_c W _ _ _⟩
end Go.Proofs.Ytopdpbcfgjijaaa
end
section
set_option linter.unusedVariables false
set_option linter.unusedSimpArgs false
set_option maxRecDepth 20000
namespace Go.Proofs.Ytopdpbcfgjijaaa
open Go Go.Ab Go.Shelf Go.RowKit Go.Lib Go.Sort
def lay_sortl_ren : Go.Shelf.Ren := ⟨fun | 6 => 37 | 15 => 47 | 14 => 46 | 28 => 61 | 29 => 62 | 20 => 53 | 21 => 54 | 22 => 55 | 23 => 56 | 24 => 57 | 25 => 58 | 26 => 59 | 27 => 60 | 46 => 76 | 47 => 77 | 48 => 78 | 49 => 79 | 50 => 80 | 57 => 85 | n => n, fun | 22 => 34 | 24 => 52 | 25 => 78 | 3 => 3 | 39 => 84 | 0 => 0 | 53 => 96 | 55 => 98 | 4 => 4 | 46 => 90 | 45 => 89 | 50 => 67 | 5 => 5 | 9 => 9 | 66 => 108 | 70 => 112 | 76 => 116 | 77 => 47 | n => n, fun | n => n⟩
theorem lay_sortl : Go.Proofs.SlLaysF0.n6 Try.prog lay_sortl_ren := {
  mixed := by kernel_rfl
  f6 := ⟨Try.f37.name, by decide, Try.func37.trans (congrArg some (by kernel_rfl))⟩
  f14 := ⟨Try.f46.name, by decide, Try.func46.trans (congrArg some (by kernel_rfl))⟩
  f15 := Try.func47.trans (congrArg some (by kernel_rfl))
  f20 := ⟨Try.f53.name, by decide, Try.func53.trans (congrArg some (by kernel_rfl))⟩
  f21 := ⟨Try.f54.name, by decide, Try.func54.trans (congrArg some (by kernel_rfl))⟩
  f22 := ⟨Try.f55.name, by decide, Try.func55.trans (congrArg some (by kernel_rfl))⟩
  f23 := ⟨Try.f56.name, by decide, Try.func56.trans (congrArg some (by kernel_rfl))⟩
  f24 := ⟨Try.f57.name, by decide, Try.func57.trans (congrArg some (by kernel_rfl))⟩
  f25 := ⟨Try.f58.name, by decide, Try.func58.trans (congrArg some (by kernel_rfl))⟩
  f26 := ⟨Try.f59.name, by decide, Try.func59.trans (congrArg some (by kernel_rfl))⟩
  f27 := ⟨Try.f60.name, by decide, Try.func60.trans (congrArg some (by kernel_rfl))⟩
  f28 := Try.func61.trans (congrArg some (by kernel_rfl))
  f29 := Try.func62.trans (congrArg some (by kernel_rfl))
  f46 := ⟨Try.f76.name, by decide, Try.func76.trans (congrArg some (by kernel_rfl))⟩
  f47 := Try.func77.trans (congrArg some (by kernel_rfl))
  f48 := Try.func78.trans (congrArg some (by kernel_rfl))
  f49 := ⟨Try.f79.name, by decide, Try.func79.trans (congrArg some (by kernel_rfl))⟩
  f50 := ⟨Try.f80.name, by decide, Try.func80.trans (congrArg some (by kernel_rfl))⟩
  f57 := ⟨Try.f85.name, by decide, Try.func85.trans (congrArg some (by kernel_rfl))⟩
  t0 := Try.underlying0
  a0 := Try.isAgg0
  z0 := Try.sizeOf0
  v0 := Try.zeroValue0
  t3 := Try.underlying3
  a3 := Try.isAgg3
  z3 := Try.sizeOf3
  v3 := Try.zeroValue3
  t4 := Try.underlying4
  a4 := Try.isAgg4
  z4 := Try.sizeOf4
  v4 := Try.zeroValue4
  t5 := Try.underlying5
  a5 := Try.isAgg5
  z5 := Try.sizeOf5
  v5 := Try.zeroValue5
  t9 := Try.underlying9
  a9 := Try.isAgg9
  z9 := Try.sizeOf9
  v9 := Try.zeroValue9
  t22 := Try.underlying34
  a22 := Try.isAgg34
  z22 := Try.sizeOf34
  v22 := Try.zeroValue34
  t25 := Try.underlying78
  a25 := Try.isAgg78
  z25 := Try.sizeOf78
  v25 := Try.zeroValue78
  t39 := Try.underlying84
  a39 := Try.isAgg84
  z39 := Try.sizeOf84
  v39 := Try.zeroValue84
  t45 := Try.underlying89
  a45 := Try.isAgg89
  z45 := Try.sizeOf89
  v45 := Try.zeroValue89
  t46 := Try.underlying90
  a46 := Try.isAgg90
  z46 := Try.sizeOf90
  v46 := Try.zeroValue90
  t50 := Try.underlying67
  a50 := Try.isAgg67
  z50 := Try.sizeOf67
  v50 := Try.zeroValue67
  t53 := Try.underlying96
  a53 := Try.isAgg96
  z53 := Try.sizeOf96
  v53 := Try.zeroValue96
  t55 := Try.underlying98
  a55 := Try.isAgg98
  z55 := Try.sizeOf98
  v55 := Try.zeroValue98
  t66 := Try.underlying108
  a66 := Try.isAgg108
  z66 := Try.sizeOf108
  v66 := Try.zeroValue108
  t70 := Try.underlying112
  a70 := Try.isAgg112
  z70 := Try.sizeOf112
  v70 := Try.zeroValue112
  t76 := Try.underlying116
  a76 := Try.isAgg116
  z76 := Try.sizeOf116
  v76 := Try.zeroValue116
  t77 := Try.underlying47
  a77 := Try.isAgg47
  z77 := Try.sizeOf47
  v77 := Try.zeroValue47 }
end Go.Proofs.Ytopdpbcfgjijaaa
end
section
set_option linter.unusedVariables false
set_option linter.unusedSimpArgs false
set_option maxRecDepth 20000
set_option maxHeartbeats 4000000
namespace Go.Proofs.Ytopdpbcfgjijaaa
open Go Go.Ab Go.Shelf Go.RowKit Go.Lib Go.Sort
def LE.cells (x : LE) : List AV := [.str x.job, .int .i64 x.wk, .int .i64 x.tl]
def lsC (l : List LE) : List AV := l.flatMap LE.cells
theorem lsC_len (l : List LE) : (lsC l).length = l.length * 3 := by
  unfold lsC
  induction l with
  | nil => rfl
  | cons f g ih => rw [List.flatMap_cons, List.length_append, ih, List.length_cons]; show 3 + _ = _; omega
theorem lsC_one (g : List LE) : ∀ x ∈ lsC g, x.one = true := by
  intro x hx
  obtain ⟨y, hy, hx⟩ := List.mem_flatMap.1 hx
  have hx : x ∈ [AV.str y.job, .int .i64 y.wk, .int .i64 y.tl] := hx
  simp at hx; rcases hx with rfl | rfl | rfl <;> rfl
theorem lsC_at : ∀ {l : List LE} {i : Nat} (h : i < l.length), ∃ r, (lsC l).drop (i * 3) = .str l[i].job :: .int .i64 l[i].wk :: .int .i64 l[i].tl :: r
  | f :: l, 0, h => ⟨lsC l, rfl⟩
  | f :: l, i + 1, h => by
    obtain ⟨r, hr⟩ := lsC_at (l := l) (i := i) (by simpa using h)
    refine ⟨r, ?_⟩
    have e : lsC (f :: l) = [.str f.job, .int .i64 f.wk, .int .i64 f.tl] ++ lsC l := rfl
    have e2 : (i + 1) * 3 = ([.str f.job, .int .i64 f.wk, .int .i64 f.tl] : List AV).length + i * 3 := by simp; omega
    rw [e, e2, List.drop_append, Nat.add_sub_cancel_left, hr, List.drop_eq_nil_of_le (by omega)]
    rfl
def leK (f : LE) (k : Nat) : AV := match k with | 0 => .str f.job | 1 => .int .i64 f.wk | _ => .int .i64 f.tl
theorem leC_get {l : List LE} {i : Nat} (h : i < l.length * 3) : (lsC l)[i]? = some (leK (l[i / 3]'(by omega)) (i % 3)) := by
  have hq : i / 3 < l.length := by omega
  obtain ⟨r, hr⟩ := lsC_at hq
  have e : i = i / 3 * 3 + i % 3 := by omega
  have h3 : i % 3 < 3 := Nat.mod_lt _ (by decide)
  conv => lhs; rw [e]
  rw [← List.getElem?_drop, hr]
  generalize i % 3 = k at h3
  match k, h3 with
  | 0, _ => rfl
  | 1, _ => rfl
  | 2, _ => rfl
theorem leF_get {l : List LE} {i : Nat} (h : i < l.length * 3) : (flatK encL 3 l.toArray)[i]! = (encL (l[i / 3]'(by omega)))[i % 3]! := by
  rw [get_flatK encL 3 l.toArray i (by simpa using h)]
  have hq : i / 3 < l.toArray.size := by simp; omega
  rw [getElem!_pos l.toArray (i / 3) hq]
  simp
theorem leE_rel (r : Rl) (w : World) (f : LE) (k : Nat) (h : k < 3) : VRel r w (encL f)[k]! (leK f k) := by
  match k, h with
  | 0, _ => exact .str (by simp)
  | 1, _ => exact .int
  | 2, _ => exact .int
theorem leE_eq {r : Rl} {w : World} {f : LE} {k : Nat} {v : Value} (h : k < 3) (hv : VRel r w v (leK f k)) : v = (encL f)[k]! := by
  match k, h with
  | 0, _ =>
    have hv : VRel r w v (.str f.job) := hv
    cases hv with
    | str hs => show Value.string _ = .string _; rw [← hs]
  | 1, _ =>
    have hv : VRel r w v (.int .i64 f.wk) := hv
    cases hv; rfl
  | 2, _ =>
    have hv : VRel r w v (.int .i64 f.tl) := hv
    cases hv; rfl
def ltL (x y : LE) : Prop := x.job < y.job ∨ (x.job = y.job ∧ x.wk < y.wk)
instance (x y : LE) : Decidable (ltL x y) := by unfold ltL; infer_instance
theorem ltLO (f g : LE) : ltOf cmpL f g = decide (ltL f g) := by
  unfold ltOf cmpL cmpT cmpI
  rw [Bool.eq_iff_iff]
  simp only [decide_eq_true_eq]
  unfold ltL
  rcases Std.lt_trichotomy f.job g.job with h | h | h
  · simp [h]
  · rw [h]
    have h0 : ¬ g.job < g.job := List.lt_irrefl _
    by_cases h1 : f.wk < g.wk
    · simp [h0, h1]
    · by_cases h2 : g.wk < f.wk <;> simp [h0, h1, h2]
  · have h0 : ¬ f.job < g.job := List.lt_asymm h
    have h1 : f.job ≠ g.job := fun e => by rw [e] at h; exact List.lt_irrefl _ h
    simp [h, h0, h1]
theorem ltL_irr (x : LE) : ¬ ltL x x := fun h => by
  rcases h with h | ⟨_, h⟩
  · exact List.lt_irrefl _ h
  · omega
theorem ltL_trans {x y z : LE} (h1 : ltL x y) (h2 : ltL y z) : ltL x z := by
  rcases h1 with h1 | ⟨e1, h1⟩ <;> rcases h2 with h2 | ⟨e2, h2⟩
  · exact .inl (List.lt_trans h1 h2)
  · exact .inl (e2 ▸ h1)
  · exact .inl (e1 ▸ h2)
  · exact .inr ⟨e1.trans e2, by omega⟩
theorem ltL_tot {x y : LE} (hne : x.job ≠ y.job ∨ x.wk ≠ y.wk) (h : ¬ ltL y x) : ltL x y := by
  rcases Std.lt_trichotomy x.job y.job with h1 | h1 | h1
  · exact .inl h1
  · rcases hne with hne | hne
    · exact absurd h1 hne
    · refine .inr ⟨h1, ?_⟩
      by_cases h2 : x.wk < y.wk
      · exact h2
      · exact absurd (.inr ⟨h1.symm, by omega⟩) h
  · exact absurd (.inl h1) h
theorem swoL : SWO (ltOf cmpL) where
  irrefl x := by rw [ltLO]; exact decide_eq_false (ltL_irr x)
  trans x y z h1 h2 := by
    rw [ltLO] at *
    simp only [decide_eq_true_eq] at *
    exact ltL_trans h1 h2
  ntrans x y z h1 h2 := by
    rw [ltLO] at *
    simp only [decide_eq_false_iff_not] at *
    intro h
    by_cases hk : y.job ≠ z.job ∨ y.wk ≠ z.wk
    · exact h1 (ltL_trans h (by
        have := ltL_tot (x := z) (y := y) (by rcases hk with hk | hk; exact .inl hk.symm; exact .inr hk.symm) h2
        exact this))
    · have e1 : y.job = z.job := by
        by_cases e : y.job = z.job
        · exact e
        · exact absurd (.inl e) hk
      have e2 : y.wk = z.wk := by
        by_cases e : y.wk = z.wk
        · exact e
        · exact absurd (.inr e) hk
      refine h1 ?_
      unfold ltL at h ⊢
      rw [e1, e2]; exact h
theorem cmpLaysL (blk off size : Nat) (w : World) : CmpLays Try.prog 38 #[] encL 3 cmpL blk off size w :=
  fun _ _ _ _ f g => closL_c f g _
theorem sort_cL (blk off cap : Nat) (d : Array LE) (w : World) (hH : HoldsK encL 3 w blk off d) (hblk : blk < w.heap.size) (hsz : d.size < 4611686018427387904) :
    Calls Try.prog 37 #[.slice (some ⟨blk, off, none⟩) d.size cap, .func (.func 38) #[] #[]] w fun e w' =>
      e = .returned (.tuple #[]) ∧ ∃ d' n os, PermIn 0 d.size d d' ∧ SortedIn (ltOf cmpL) 0 d.size d' ∧ w' = sortWorldK encL 3 w blk off n d' os :=
  AnyQ.slices_SortFunc lay_sortl 3 Try.isAgg52 Try.sizeOf52 encL (fun _ => rfl) (fun x v hv => by simp [encL] at hv; rcases hv with rfl | rfl | rfl <;> rfl) cmpL swoL 38 #[] blk off cap d w (fun a w => Try.call38 a w) (cmpLaysL blk off d.size w) hH hblk hsz
theorem SortL_ok (o : List LE) (hne : 0 < o.length) (hlen : o.length ≤ 1000000) (hnd : (o.map fun x => (x.job, x.wk)).Nodup) {σ : Heap} {id ver : Nat} (hσ : σ[id]? = some (ver, some (.cells (lsC o) ⟨false, none⟩))) :
    CallOk cx 37 [.ms id ver 0 o.length 3 false, .func (.func 38) [] []] σ (fun e s => e = .ret (.tup []) ∧ ∃ o2, o2.Perm o ∧ o2.Pairwise ltL ∧ s = σ.set id (ver, some (.cells (lsC o2) ⟨false, none⟩))) := by
  refine ⟨fun a w => Try.call37 a w, fun r w vs hi hv => ?_⟩
  obtain ⟨hs, hv⟩ := hv
  have g0 := hv 0 (by simp)
  have g1 := hv 1 (by simp)
  have hvs : vs = #[vs.getD 0 undef, vs.getD 1 undef] := by
    have hs : vs.size = 2 := hs
    refine Array.ext (by simp [hs]) fun j h1 h2 => ?_
    match j, h1 with
    | 0, h1 => simp [Array.getD, h1]
    | 1, h1 => simp [Array.getD, h1]
    | j + 2, h1 => omega
  rw [hvs]
  generalize vs.getD 0 undef = a at g0
  generalize vs.getD 1 undef = b at g1
  have g0 : VRel r w a (.ms id ver 0 o.length 3 false) := g0
  have g1 : VRel r w b (.func (.func 38) [] []) := g1
  cases g1 with
  | func f1 hfx f2 hbx0 =>
  rename_i first captured
  have hf1 : first = #[] := Array.eq_empty_of_size_eq_zero f1
  have hf2 : captured = #[] := Array.eq_empty_of_size_eq_zero f2
  subst hf1; subst hf2
  generalize hn : o.length = n at g0
  cases g0 with
  | ms0 => omega
  | ms hρ hcap hle hff =>
  rename_i blk off cap
  rcases hi.box id ver _ hσ with ⟨blk', off', hρ', hbx⟩ | ⟨_, ro, h⟩
  case inr =>
    have h := Box.cells.inj h
    have := lsC_len o
    rw [h.1] at this; simp at this; omega
  rw [hρ] at hρ'
  obtain ⟨rfl, rfl⟩ : blk = blk' ∧ off = off' := by cases hρ'; exact ⟨rfl, rfl⟩
  obtain ⟨c, t, lo, hi0, q1, q2, q3, q4, q5⟩ := hbx
  have hcl := lsC_len o
  have hbs : blk < w.heap.size := (hi.lt _ _ _ _ hρ).2
  have hcell : ∀ j, j < o.length * 3 → c[off + j]? = some (flatK encL 3 o.toArray)[j]! := by
    intro j hj
    obtain ⟨v, k1, k2⟩ := q2 j (by omega)
    have hg := leC_get hj
    rw [List.getElem?_eq_getElem (by omega)] at hg
    rw [Option.some.inj hg] at k2
    rw [k1, leF_get hj, leE_eq (Nat.mod_lt _ (by decide)) k2]
  have hH : HoldsK encL 3 w blk off o.toArray := by
    intro j hj
    have hj : j < o.length * 3 := by simpa using hj
    refine ⟨by simp only [World.cell?, q1]; exact hcell j hj, ?_⟩
    have hjc : off + j < c.size := by
      rcases Nat.lt_or_ge (off + j) c.size with h | h
      · exact h
      · have := hcell j hj
        rw [Array.getElem?_eq_none h] at this; cases this
    simp only [World.frozen?, q1]
    cases hz : (decide (lo ≤ off + j) && decide (off + j < hi0)) with
    | false => rfl
    | true =>
      simp only [Bool.and_eq_true, decide_eq_true_eq] at hz
      have := (q4 _ hz.1 hz.2 hjc).1
      cases this
  have hc := sort_cL blk off cap o.toArray w hH hbs (by simp; omega)
  rw [show o.toArray.size = n by simpa using hn] at hc
  refine hc.mono ?_
  rintro e w' ⟨rfl, d', m, os, hp, hsd, rfl⟩
  obtain ⟨hd1, _, hd3⟩ := hp
  have hd1 : d'.size = n := by rw [hd1]; simpa using hn
  have hperm : d'.toList.Perm o := by
    have e1 : d'.extract 0 n = d' := by rw [← hd1]; simp
    have e2 : o.toArray.extract 0 n = o.toArray := by rw [← hn]; simp
    rw [e1, e2] at hd3
    simpa using hd3
  have hpw : d'.toList.Pairwise ltL := by
    rw [List.pairwise_iff_getElem]
    intro i j h1 h2 hij
    have hne : (d'.toList[i]).job ≠ (d'.toList[j]).job ∨ (d'.toList[i]).wk ≠ (d'.toList[j]).wk := by
      have hnd2 : (d'.toList.map fun x => (x.job, x.wk)).Nodup := (hperm.map _).nodup_iff.2 hnd
      by_cases e1 : (d'.toList[i]).job = (d'.toList[j]).job
      · by_cases e2 : (d'.toList[i]).wk = (d'.toList[j]).wk
        · have := nodup_inj hnd2 (i := i) (k := j) (by simpa using h1) (by simpa using h2) (by simp only [List.getElem_map, e1, e2])
          omega
        · exact .inr e2
      · exact .inl e1
    rw [Array.length_toList] at h1 h2
    have h3 := hsd i j (Nat.zero_le _) hij (by omega)
    rw [ltLO, getElem!_pos d' i h1, getElem!_pos d' j h2] at h3
    simp only [decide_eq_false_iff_not] at h3
    rw [Array.getElem_toList, Array.getElem_toList] at hne ⊢
    exact ltL_tot hne h3
  obtain ⟨o2, ho2⟩ : ∃ o2, o2 = d'.toList := ⟨_, rfl⟩
  rw [← ho2] at hperm hpw
  have hd' : d' = o2.toArray := by rw [ho2]
  have hln : o2.length = n := by rw [hperm.length_eq]; exact hn
  have hF : (flatK encL 3 d').size = n * 3 := by rw [size_flatK, hd1]
  have hheap : ∀ k, k < w.heap.size → (sortWorldK encL 3 w blk off m d' os).heap[k]? = if blk = k then some (Obj.cells (putCells _root_.id off (flatK encL 3 d') c) t (lo, hi0)) else w.heap[k]? := by
    intro k hk
    show ((w.heap.modify blk (onCells (putCells _root_.id off (flatK encL 3 d')))) ++ os)[k]? = _
    rw [Array.getElem?_append_left (by simpa using hk), Array.getElem?_modify]
    by_cases e : blk = k
    · subst e
      rw [if_pos rfl, if_pos rfl, q1]; rfl
    · rw [if_neg e, if_neg e]
  have hupd := hi.update (σ' := σ.set id (ver, some (.cells (lsC o2) ⟨false, none⟩))) (id := id) (ver := ver) (b := blk) (o := off) (x := .cells (lsC o2) ⟨false, none⟩) (w' := sortWorldK encL 3 w blk off m d' os)
    (by
      have : id < σ.length := by
        rcases Nat.lt_or_ge id σ.length with h | h
        · exact h
        · rw [List.getElem?_eq_none h] at hσ; cases hσ
      simp [this]) (fun j hj => by rw [List.getElem?_set, if_neg (Ne.symm hj)]) (fun c2 y hy => by rw [hσ] at hy; cases hy; exact .inr ⟨rfl, hρ⟩) (.inr ⟨ver, _, off, hσ, hρ⟩)
    (fun k hk hkb => by rw [hheap k hk, if_neg (Ne.symm hkb)]) (by
      show w.heap.size ≤ ((w.heap.modify blk (onCells (putCells _root_.id off (flatK encL 3 d')))) ++ os).size
      simp) (fun c2 t2 f2 hc2 => by
        rw [q1] at hc2; cases hc2
        exact ⟨_, _, by rw [hheap blk hbs, if_pos rfl], by simp [putCells]⟩) rfl rfl rfl
    (fun g => by
      refine ⟨_, t, lo, hi0, by rw [hheap blk hbs, if_pos rfl], fun i hil => ?_, lsC_one _, fun i h1 h2 h3 => ?_, fun T h => by cases h⟩
      · have hil' : i < o2.length * 3 := by rw [lsC_len] at hil; exact hil
        have hg := leC_get hil'
        rw [List.getElem?_eq_getElem hil] at hg
        rw [Option.some.inj hg]
        refine ⟨(flatK encL 3 o2.toArray)[i]!, ?_, by rw [leF_get hil']; exact leE_rel _ _ _ _ (Nat.mod_lt _ (by decide))⟩
        have hci : off + i < c.size := by
          have := hcell i (by omega)
          rcases Nat.lt_or_ge (off + i) c.size with h | h
          · exact h
          · rw [Array.getElem?_eq_none h] at this; cases this
        rw [hd']
        unfold putCells
        rw [Array.getElem?_mapIdx, Array.getElem?_eq_getElem hci]
        show some (if off ≤ off + i ∧ off + i < off + (flatK encL 3 o2.toArray).size then _root_.id ((flatK encL 3 o2.toArray)[off + i - off]!) else _) = _
        rw [if_pos ⟨by omega, by rw [size_flatK]; simp; omega⟩, Nat.add_sub_cancel_left]; rfl
      · have h3 : i < c.size := by simpa [putCells] using h3
        have := (q4 i h1 h2 h3).1
        cases this)
  exact ⟨.ret (.tup []), _, _, ⟨rfl, o2, hperm, hpw, rfl⟩, .tup rfl (fun i h => absurd h (by simp)), hupd.1, hupd.2⟩
theorem Len0_ok : Calc cx 62 [.int .u64 0] (.int .i64 0) :=
  pure_intro (fun a w => Try.call62 a w) Try.func62 rfl Try.ntmps62 rfl .int fun B => by
    refine pa [.b false, .b false, .b false] rfl ?_ ?_
    · (repeat' with_reducible apply AllP_cons) <;> try exact aC
      all_goals decide +kernel
    refine S_retc .int rfl trivial ?_
    rfl
theorem LenU0_ok : Calc cx 47 [.int .u64 0] (.int .i64 0) :=
  pure_intro (fun a w => Try.call47 a w) Try.func47 rfl Try.ntmps47 rfl .int fun B => by
    refine pa [.b false, .v (.int .i64 0)] rfl ?_ ?_
    · (repeat' with_reducible apply AllP_cons) <;> try exact aC
      · exact ⟨_, Len0_ok, .cons (.refl .int) (.nil _)⟩
    exact S_retc .int rfl trivial rfl
theorem Ins0_okL (σ : Heap) (id v : Nat) : CallOk cx 53 [.ms id v 0 0 3 false, .int .i64 0, .int .i64 0, .func (.func 38) [] []] σ (fun o s => o = .ret (.tup []) ∧ s = σ) :=
  callOk_intro (fun a w => Try.call53 a w) Try.func53 rfl Try.ntmps53 rfl fun B => by
    refine pas [] rfl ?_ ?_
    · (repeat' with_reducible apply AllP_cons) <;> try exact aC
    refine S_while (α := Unit) (fun _ => [(2, .int .i64 0), (8, .int .i64 1)]) (fun _ => σ) (fun _ => True) (fun _ => 0) () trivial (.cons rfl (.cons rfl (.nil _))) rfl ?_
    rintro ⟨⟩ _
    refine pas [.b false] rfl ?_ ?_
    · (repeat' with_reducible apply AllP_cons) <;> try exact aC
    exact S_nil ⟨_, _, rfl, trivial, rfl, rfl⟩
theorem Pdq0_okL (σ : Heap) (id v : Nat) : CallOk cx 46 [.ms id v 0 0 3 false, .int .i64 0, .int .i64 0, .int .i64 0, .func (.func 38) [] []] σ (fun o s => o = .ret (.tup []) ∧ s = σ) :=
  callOk_intro (fun a w => Try.call46 a w) Try.func46 rfl Try.ntmps46 rfl fun B => by
    refine pas [] rfl ?_ ?_
    · (repeat' with_reducible apply AllP_cons) <;> try exact aC
    refine S_while (α := Unit) (fun _ => [(0, .ms id v 0 0 3 false), (1, .int .i64 0), (2, .int .i64 0), (4, .func (.func 38) [] [])]) (fun _ => σ) (fun _ => True) (fun _ => 0) () trivial (.cons rfl (.cons rfl (.cons rfl (.cons rfl (.nil _))))) rfl ?_
    rintro ⟨⟩ _
    refine pa [.b true, .k (.tup [])] rfl ?_ ?_
    · (repeat' with_reducible apply AllP_cons) <;> try exact aC
      · exact Ins0_okL σ id v
    exact S_ret ⟨_, _, rfl, trivial, rfl, rfl⟩
theorem SortL_any (o : List LE) (hlen : o.length ≤ 1000000) (hnd : (o.map fun x => (x.job, x.wk)).Nodup) {σ : Heap} {id ver : Nat} (hσ : σ[id]? = some (ver, some (.cells (lsC o) ⟨false, none⟩))) :
    CallOk cx 37 [.ms id ver 0 o.length 3 false, .func (.func 38) [] []] σ (fun e s => e = .ret (.tup []) ∧ ∃ o2, o2.Perm o ∧ o2.Pairwise ltL ∧ s = σ.set id (ver, some (.cells (lsC o2) ⟨false, none⟩))) := by
  by_cases h0 : o = []
  · subst h0
    have hset : σ.set id (ver, some (.cells (lsC []) ⟨false, none⟩)) = σ := by
      refine List.ext_getElem? fun i => ?_
      rw [List.getElem?_set]
      split
      · rename_i h; subst h
        split
        · exact hσ.symm
        · rename_i h; rw [List.getElem?_eq_none (by omega)] at hσ; cases hσ
      · rfl
    exact callOk_intro (fun a w => Try.call37 a w) Try.func37 rfl Try.ntmps37 rfl fun B => by
      refine pas [.v (.int .i64 0), .k (.tup [])] rfl ?_ ?_
      · (repeat' with_reducible apply AllP_cons) <;> try exact aC
        · exact ⟨_, LenU0_ok, .cons (.refl .int) (.nil _)⟩
        · exact Pdq0_okL _ _ _
      exact S_nil ⟨_, _, rfl, trivial, rfl, [], .refl _, .nil, hset.symm⟩
  · exact SortL_ok o (List.length_pos_iff.2 h0) hlen hnd hσ
end Go.Proofs.Ytopdpbcfgjijaaa
end
section
set_option linter.unusedVariables false
set_option linter.unusedSimpArgs false
set_option maxRecDepth 20000
set_option maxHeartbeats 4000000
namespace Go.Proofs.Ytopdpbcfgjijaaa
open Go Go.Ab
def leP (s : Nm) (p : Int × Int) : LE := ⟨s, p.1, p.2⟩
def leJ (e : JE) : List LE := e.till.map (leP e.name)
def allL (es : List JE) : List LE := es.flatMap leJ
theorem lkG {α : Type} : ∀ (bs : List Nat) (es : List α), bs.length = es.length → bs.Nodup → ∀ i (h1 : i < bs.length) (h2 : i < es.length), (bs.zip es).lookup bs[i] = some es[i]
  | b :: bs, e :: es, hl, hn, 0, _, _ => by simp [List.zip_cons_cons, List.lookup_cons]
  | b :: bs, e :: es, hl, hn, i + 1, h1, h2 => by
    obtain ⟨hb, hn⟩ := List.nodup_cons.1 hn
    have hi : i < bs.length := Nat.lt_of_succ_lt_succ h1
    have hne : (bs[i] == b) = false := by
      simp only [beq_eq_false_iff_ne, ne_eq]
      rintro rfl
      exact hb (List.getElem_mem hi)
    rw [List.zip_cons_cons, List.lookup_cons, List.getElem_cons_succ, List.getElem_cons_succ, hne]
    exact lkG bs es (by simpa using hl) hn i hi (Nat.lt_of_succ_lt_succ h2)
def gotL {α : Type} (bs : List Nat) (es : List α) (f : α → List LE) (b : Nat) : List LE := match (bs.zip es).lookup b with
  | some e => f e
  | none => []
theorem fmcL {α β : Type} {f g : α → List β} : ∀ {l : List α}, (∀ x ∈ l, f x = g x) → l.flatMap f = l.flatMap g
  | [], _ => rfl
  | x :: r, h => by rw [List.flatMap_cons, List.flatMap_cons, h x (List.mem_cons_self ..), fmcL fun y hy => h y (List.mem_cons_of_mem _ hy)]
theorem gotL_all {α : Type} (f : α → List LE) : ∀ (bs : List Nat) (es : List α), bs.length = es.length → bs.Nodup → bs.flatMap (gotL bs es f) = es.flatMap f
  | [], [], _, _ => rfl
  | [], e :: es, hl, _ => by cases hl
  | b :: bs, [], hl, _ => by cases hl
  | b :: bs, e :: es, hl, hn => by
    obtain ⟨hb, hn⟩ := List.nodup_cons.1 hn
    have ih := gotL_all f bs es (by simpa using hl) hn
    have hc : bs.flatMap (gotL (b :: bs) (e :: es) f) = bs.flatMap (gotL bs es f) := by
      refine fmcL fun x hx => ?_
      have hne : (x == b) = false := by
        simp only [beq_eq_false_iff_ne, ne_eq]
        rintro rfl
        exact hb hx
      unfold gotL
      rw [List.zip_cons_cons, List.lookup_cons, hne]
    have h0 : gotL (b :: bs) (e :: es) f b = f e := by unfold gotL; simp [List.zip_cons_cons, List.lookup_cons]
    rw [List.flatMap_cons, hc, ih, List.flatMap_cons, h0]
theorem allL_nd : ∀ {es : List JE}, (es.map JE.name).Nodup → TilOk es → ((allL es).map fun x => (x.job, x.wk)).Nodup
  | [], _, _ => .nil
  | e :: es, hn, ht => by
    obtain ⟨h1, h2⟩ := List.nodup_cons.1 (show (e.name :: es.map JE.name).Nodup from hn)
    have ih := allL_nd h2 fun x hx => ht x (List.mem_cons_of_mem _ hx)
    have e1 : allL (e :: es) = leJ e ++ allL es := rfl
    rw [e1, List.map_append]
    refine List.nodup_append.2 ⟨?_, ih, fun x hx y hy => ?_⟩
    · have hk := ht e (List.mem_cons_self ..)
      unfold leJ
      rw [List.map_map]
      have : ((fun x : LE => (x.job, x.wk)) ∘ leP e.name) = (fun w : Int => (e.name, w)) ∘ Prod.fst := rfl
      rw [this, ← List.map_map]
      exact List.Pairwise.map _ (fun a b hab => by simpa using hab) hk
    · rintro rfl
      obtain ⟨a, ha, rfl⟩ := List.mem_map.1 hx
      obtain ⟨b, hb, hab⟩ := List.mem_map.1 hy
      obtain ⟨p, _, rfl⟩ := List.mem_map.1 ha
      obtain ⟨x, hx', hb⟩ := List.mem_flatMap.1 hb
      obtain ⟨p', _, rfl⟩ := List.mem_map.1 hb
      have : x.name = e.name := congrArg Prod.fst hab
      exact h1 (this ▸ List.mem_map_of_mem hx')
theorem lsC_snoc (l : List LE) (x : LE) : lsC l ++ x.cells = lsC (l ++ [x]) := by unfold lsC; rw [List.flatMap_append]; simp
structure LvOk (es : List JE) : Prop where
  el : es.length ≤ 1000
  tl : TilOk es
  tn : ∀ e ∈ es, e.till.length ≤ 1000
  nn : (es.map JE.name).Nodup
theorem Leases_ok (σ : Heap) (q mid : Nat) (t : TM) (now : Int) (es : List JE) (h : LAt σ q mid none t now es) (hb : LvOk es) :
    CallOk cx 23 [.ptr q 0 0] σ (fun o s => ∃ w wv out, o = .ret (.ms w wv 0 out.length 3 false) ∧ σ.length ≤ w ∧ s[w]? = some (wv, some (.cells (lsC out) ⟨false, none⟩)) ∧ out.Perm (allL es) ∧ out.Pairwise ltL ∧ LAt s q mid none t now es ∧ QKeep σ s (OwnL q mid es) (OwnL q mid es)) :=
  callOk_intro (fun a w => Try.call23 a w) Try.func23 rfl Try.ntmps23 rfl fun B => by
    refine pao [.v (.map mid 0), .s] rfl ?_ ?_
    · (repeat' with_reducible apply AllP_cons) <;> try exact aC
      · exact OpSpec.loadP rfl rfl rfl rfl h.qb rfl
    refine S_ghostF (t := 3) (gid := σ.length) (gver := 0) (σ' := σ ++ [(0, some (.cells [] ⟨false, none⟩))]) 3 ⟨false, none⟩ rfl (alloc_last h.al _) ⟨.skip, _, .inr ⟨_, _, _, rfl⟩⟩ ?_
    have hL2 : LAt (σ ++ [(0, some (.cells [] ⟨false, none⟩))]) q mid none t now es := h.app _ _
    have hK2 : QKeep σ (σ ++ [(0, some (.cells [] ⟨false, none⟩))]) (OwnL q mid es) (OwnL q mid es) := QKeep.app
    have hg2 : (σ ++ [((0, some (.cells [] ⟨false, none⟩)) : Nat × Option Box)])[σ.length]? = some (0, some (.cells [] ⟨false, none⟩)) := app_last
    have hlen2 : (σ ++ [((0, some (.cells [] ⟨false, none⟩)) : Nat × Option Box)]).length = σ.length + 1 := by simp
    generalize (σ ++ [((0, some (.cells [] ⟨false, none⟩)) : Nat × Option Box)]) = σ2 at *
    refine S_stamp (id := mid) hL2.mb (fun bs c0 hbl hbn hbc => ?_) ⟨.skip, _, .inr ⟨_, _, _, rfl⟩⟩
    have hbl : bs.length = es.length := by rw [hbl]; simp [entK]
    have hL3 := hL2.stamp (some (bs, c0))
    have hno : ∀ id, σ.length ≤ id → ¬ OwnL q mid es id := fun id hid ho => by have := h.lt _ ho; omega
    have hgm : σ.length ≠ mid := fun e => hno _ (Nat.le_refl _) (e ▸ own_m)
    have hK3 : QKeep σ (σ2.set mid (0, some (.map (entK es) (some (bs, c0))))) (OwnL q mid es) (OwnL q mid es) := hK2.setO own_m _
    have hg3 : (σ2.set mid (0, some (.map (entK es) (some (bs, c0)))))[σ.length]? = some (0, some (.cells [] ⟨false, none⟩)) := by rw [set_ne hgm]; exact hg2
    have hlen3 : (σ2.set mid (0, some (.map (entK es) (some (bs, c0))))).length = σ.length + 1 := by rw [List.length_set]; exact hlen2
    generalize σ2.set mid (0, some (.map (entK es) (some (bs, c0)))) = σ3 at *
    refine pao [.f (.ptr σ3.length 0 0) (fun s => s ++ [(0, some (.miter mid 0 c0 [] c0))])] rfl ?_ ?_
    · (repeat' with_reducible apply AllP_cons) <;> try exact aC
      · exact OpSpec.rangeG hL3.al rfl rfl rfl hL3.mb rfl
    rw [hlen3]
    have hL4 : LAt (σ3 ++ [(0, some (.miter mid 0 c0 [] c0))]) q mid (some (bs, c0)) t now es := hL3.app _ _
    have hK4 : QKeep σ (σ3 ++ [(0, some (.miter mid 0 c0 [] c0))]) (OwnL q mid es) (OwnL q mid es) := hK3.trans QKeep.app
    have hg4 : (σ3 ++ [((0, some (.miter mid 0 c0 [] c0)) : Nat × Option Box)])[σ.length]? = some (0, some (.cells [] ⟨false, none⟩)) := app_get hg3
    have hm4 : (σ3 ++ [((0, some (.miter mid 0 c0 [] c0)) : Nat × Option Box)])[σ.length + 1]? = some (0, some (.miter mid 0 c0 [] c0)) := by rw [← hlen3]; exact app_last
    obtain ⟨look, hlook⟩ : ∃ look : Nat → List LE, look = gotL bs es leJ := ⟨_, rfl⟩
    refine S_heap (σ3 ++ [((0, some (.miter mid 0 c0 [] c0)) : Nat × Option Box)]) rfl ?_
    generalize σ3 ++ [((0, some (.miter mid 0 c0 [] c0)) : Nat × Option Box)] = σ4 at *
    have hnat : ∀ sn : List Nat, sn.Nodup → (∀ x ∈ sn, x ∈ bs) → sn.length ≤ bs.length := fun sn h1 h2 => List.Nodup.length_le_of_subset h1 h2
    refine S_while (α := Heap × List Nat × List LE) (fun s => [(0, .ptr q 0 0), (3, .ms σ.length s.2.2.length 0 s.2.2.length 3 false), (12, .ptr (σ.length + 1) 0 0)]) (fun s => s.1)
      (fun s => LAt s.1 q mid (some (bs, c0)) t now es ∧ QKeep σ s.1 (OwnL q mid es) (OwnL q mid es) ∧ s.1[σ.length]? = some (s.2.2.length, some (.cells (lsC s.2.2) ⟨false, none⟩)) ∧ s.1[σ.length + 1]? = some (0, some (.miter mid 0 c0 s.2.1 c0)) ∧ s.2.1.Nodup ∧ (∀ x ∈ s.2.1, x ∈ bs) ∧ s.2.2.Perm (s.2.1.flatMap look) ∧ s.2.2.length ≤ s.2.1.length * 1000)
      (fun s => bs.length - s.2.1.length) (σ4, [], []) ⟨hL4, hK4, hg4, hm4, .nil, (fun x h => by cases h), .refl _, Nat.le_refl _⟩ (.cons rfl (.cons rfl (.cons rfl (.nil _)))) rfl ?_
    rintro ⟨u, sn, out⟩ ⟨hL, hK, hg, hm, hs1, hs2, hs3, hs4⟩
    simp only at hL hK hg hm hs1 hs2 hs3 hs4
    refine pao [] rfl ?_ ?_
    · (repeat' with_reducible apply AllP_cons) <;> try exact aC
    refine S_mnext (id := σ.length + 1) (ver := 0) (mid := mid) (mver := 0) (since := c0) (last := c0) (c := c0) (seen := sn) (bs := bs) (kvs := entK es) rfl rfl hm hL.mb (fun x hx => hbc x hx) (Nat.le_refl _) rfl rfl ?_ ?_
    · intro i b hi2 hb' hns
      have hi : i < es.length := by simpa [entK] using hi2
      have hib : i < bs.length := by omega
      have hbe : bs[i] = b := by rw [List.getElem?_eq_getElem hib] at hb'; exact Option.some.inj hb'
      have hbm : b ∈ bs := hbe ▸ List.getElem_mem hib
      have hn2 : (sn ++ [b]).Nodup := List.nodup_append.2 ⟨hs1, by simp, fun x hx y hy => by simp at hy; subst hy; exact fun e => hns (e ▸ hx)⟩
      have hm2 : ∀ x ∈ sn ++ [b], x ∈ bs := fun x hx => by
        rcases List.mem_append.1 hx with hx | hx
        · exact hs2 x hx
        · simp at hx; subst hx; exact hbm
      have hlen2' := hnat _ hn2 hm2
      have hsl : (sn ++ [b]).length = sn.length + 1 := by simp
      rw [hsl] at hlen2'
      have hlk : look b = leJ es[i] := by
        rw [hlook, ← hbe]
        unfold gotL
        rw [lkG bs es hbl hbn i hib hi]
      have hmemE : es[i] ∈ es := List.getElem_mem hi
      have hTi := hb.tl _ hmemE
      have hTn := hb.tn _ hmemE
      have hkv : (entK es)[i]? = some (.str es[i].name, .ptr es[i].jid 0 0) := by
        unfold entK; rw [List.getElem?_map, List.getElem?_eq_getElem hi]; rfl
      have hL6 : LAt (u.set (σ.length + 1) (0, some (.miter mid 0 c0 (sn ++ [b]) c0))) q mid (some (bs, c0)) t now es := hL.mono (Alive.set hL.al _ _ _) fun id ho => set_ne fun e => by subst e; exact hno _ (Nat.le_succ _) ho
      have hK6 : QKeep σ (u.set (σ.length + 1) (0, some (.miter mid 0 c0 (sn ++ [b]) c0))) (OwnL q mid es) (OwnL q mid es) := hK.set (Nat.le_succ σ.length) _
      have hg6 : (u.set (σ.length + 1) (0, some (.miter mid 0 c0 (sn ++ [b]) c0)))[σ.length]? = some (out.length, some (.cells (lsC out) ⟨false, none⟩)) := by rw [set_ne (by omega)]; exact hg
      have hm6 : (u.set (σ.length + 1) (0, some (.miter mid 0 c0 (sn ++ [b]) c0)))[σ.length + 1]? = some (0, some (.miter mid 0 c0 (sn ++ [b]) c0)) := set_eq hm
      generalize es[i] = e at *
      refine pao [.b true, .s] rfl ?_ ?_
      · (repeat' with_reducible apply AllP_cons) <;> try exact aC
      refine S_heap (u.set (σ.length + 1) (0, some (.miter mid 0 c0 (sn ++ [b]) c0))) rfl ?_
      generalize u.set (σ.length + 1) (0, some (.miter mid 0 c0 (sn ++ [b]) c0)) = u6 at *
      have ap := hL6.ap hmemE
      have hje := hL6.jb e hmemE
      have hte := hL6.tb e hmemE
      refine pao [.v (.tup [.str e.name, .ptr e.jid 0 0]), .v (.map e.tid 0), .s] rfl ?_ ?_
      · (repeat' with_reducible apply AllP_cons) <;> try exact aC
        · exact OpSpec.entryG rfl rfl hm6 hL6.mb hb' hkv
        · exact OpSpec.loadP rfl rfl rfl rfl hje rfl
      refine S_stamp (id := e.tid) hte (fun bs2 c2 hl2 hn2' hc2 => ?_) ⟨.skip, _, .inr ⟨_, _, _, rfl⟩⟩
      have hl2 : bs2.length = e.till.length := by rw [hl2]; simp [tilK]
      have hgt : σ.length ≠ e.tid := fun x => hno _ (Nat.le_refl _) (x ▸ own_t hmemE)
      have hgt1 : σ.length + 1 ≠ e.tid := fun x => hno (σ.length + 1) (Nat.le_succ _) (x ▸ own_t hmemE)
      have hal7 : Alive (u6.set e.tid (0, some (.map (tilK e.till) (some (bs2, c2))))) := Alive.set hL6.al _ _ _
      have hte7 : (u6.set e.tid (0, some (.map (tilK e.till) (some (bs2, c2)))))[e.tid]? = some (0, some (.map (tilK e.till) (some (bs2, c2)))) := set_eq hte
      have hot7 : ∀ id, id ≠ e.tid → (u6.set e.tid (0, some (.map (tilK e.till) (some (bs2, c2)))))[id]? = u6[id]? := fun id hid => set_ne hid
      have hlen7 : (u6.set e.tid (0, some (.map (tilK e.till) (some (bs2, c2))))).length = u6.length := List.length_set ..
      generalize u6.set e.tid (0, some (.map (tilK e.till) (some (bs2, c2)))) = u7 at *
      refine pao [.f (.ptr u7.length 0 0) (fun s => s ++ [(0, some (.miter e.tid 0 c2 [] c2))])] rfl ?_ ?_
      · (repeat' with_reducible apply AllP_cons) <;> try exact aC
        · exact OpSpec.rangeG hal7 rfl rfl rfl hte7 rfl
      have htj : e.tid ≠ u7.length := by have := lt_of_get hte7; omega
      have hgj : σ.length ≠ u7.length := by have := lt_of_get hg6; omega
      have hgj1 : σ.length + 1 ≠ u7.length := by have := lt_of_get hm6; omega
      have hal8 : Alive (u7 ++ [(0, some (.miter e.tid 0 c2 [] c2))]) := Alive.app hal7 _ _
      have hte8 : (u7 ++ [((0, some (.miter e.tid 0 c2 [] c2)) : Nat × Option Box)])[e.tid]? = some (0, some (.map (tilK e.till) (some (bs2, c2)))) := app_get hte7
      have hmj8 : (u7 ++ [((0, some (.miter e.tid 0 c2 [] c2)) : Nat × Option Box)])[u7.length]? = some (0, some (.miter e.tid 0 c2 [] c2)) := app_last
      have hot8 : ∀ id, id < u7.length → id ≠ e.tid → (u7 ++ [((0, some (.miter e.tid 0 c2 [] c2)) : Nat × Option Box)])[id]? = u6[id]? := fun id h1 h2 => by rw [List.getElem?_append_left h1, hot7 id h2]
      have hlen8 : (u7 ++ [((0, some (.miter e.tid 0 c2 [] c2)) : Nat × Option Box)]).length = u7.length + 1 := by simp
      refine S_heap (u7 ++ [((0, some (.miter e.tid 0 c2 [] c2)) : Nat × Option Box)]) rfl ?_
      generalize hu8 : u7 ++ [((0, some (.miter e.tid 0 c2 [] c2)) : Nat × Option Box)] = u8 at *
      generalize hmj : u7.length = mj at *
      have hg8 : u8[σ.length]? = some (out.length, some (.cells (lsC out) ⟨false, none⟩)) := by rw [hot8 _ (by have := lt_of_get hg6; omega) hgt]; exact hg6
      have hnat2 : ∀ sn : List Nat, sn.Nodup → (∀ x ∈ sn, x ∈ bs2) → sn.length ≤ bs2.length := fun sn h1 h2 => List.Nodup.length_le_of_subset h1 h2
      obtain ⟨look2, hlook2⟩ : ∃ look2 : Nat → List LE, look2 = gotL bs2 e.till (fun p => [leP e.name p]) := ⟨_, rfl⟩
      refine S_while (α := List Nat × List LE) (fun s => [(0, .ptr q 0 0), (3, .ms σ.length s.2.length 0 s.2.length 3 false), (12, .ptr (σ.length + 1) 0 0), (4, .str e.name), (22, .ptr mj 0 0)]) (fun s => (u8.set σ.length (s.2.length, some (.cells (lsC s.2) ⟨false, none⟩))).set mj (0, some (.miter e.tid 0 c2 s.1 c2)))
        (fun s => s.1.Nodup ∧ (∀ x ∈ s.1, x ∈ bs2) ∧ s.2 = out ++ s.1.flatMap look2 ∧ s.2.length = out.length + s.1.length) (fun s => bs2.length - s.1.length) ([], out) ⟨.nil, (fun x h => by cases h), by simp, by simp⟩ (.cons rfl (.cons rfl (.cons rfl (.cons rfl (.cons rfl (.nil _)))))) (by show u8 = (u8.set σ.length (out.length, some (.cells (lsC out) ⟨false, none⟩))).set mj _; rw [set_self hg8, set_self hmj8]) ?_
      rintro ⟨sn2, o2⟩ ⟨k1, k2, k3, k4⟩
      simp only at k1 k2 k3 k4
      obtain ⟨A, hA⟩ : ∃ A : Nat × Option Box, A = (o2.length, some (.cells (lsC o2) ⟨false, none⟩)) := ⟨_, rfl⟩
      show S cx _ B _ _ _ ((u8.set σ.length (o2.length, some (.cells (lsC o2) ⟨false, none⟩))).set mj (0, some (.miter e.tid 0 c2 sn2 c2)))
      rw [← hA]
      have hm9 : ((u8.set σ.length A).set mj (0, some (.miter e.tid 0 c2 sn2 c2)))[mj]? = some (0, some (.miter e.tid 0 c2 sn2 c2)) := set_eq (y := (0, some (.miter e.tid 0 c2 [] c2))) (by rw [set_ne hgj.symm]; exact hmj8)
      have ht9 : ((u8.set σ.length A).set mj (0, some (.miter e.tid 0 c2 sn2 c2)))[e.tid]? = some (0, some (.map (tilK e.till) (some (bs2, c2)))) := by rw [set_ne htj, set_ne hgt.symm]; exact hte8
      refine pao [] rfl ?_ ?_
      · (repeat' with_reducible apply AllP_cons) <;> try exact aC
      refine S_mnext (id := mj) (ver := 0) (mid := e.tid) (mver := 0) (since := c2) (last := c2) (c := c2) (seen := sn2) (bs := bs2) (kvs := tilK e.till) rfl rfl hm9 ht9 (fun x hx => hc2 x hx) (Nat.le_refl _) rfl rfl ?_ ?_
      · intro k b2 hk hb2 hns2
        have hk2 : k < e.till.length := by simpa [tilK] using hk
        have hkb : k < bs2.length := by omega
        have hbk : bs2[k] = b2 := by rw [List.getElem?_eq_getElem hkb] at hb2; exact Option.some.inj hb2
        have hbm2 : b2 ∈ bs2 := hbk ▸ List.getElem_mem hkb
        have hkv2 : (tilK e.till)[k]? = some (.int .i64 e.till[k].1, .int .i64 e.till[k].2) := by
          unfold tilK; rw [List.getElem?_map, List.getElem?_eq_getElem hk2]; rfl
        have hlk2 : look2 b2 = [leP e.name e.till[k]] := by
          rw [hlook2, ← hbk]
          unfold gotL
          rw [lkG bs2 e.till hl2 hn2' k hkb hk2]
        have hn3 : (sn2 ++ [b2]).Nodup := List.nodup_append.2 ⟨k1, by simp, fun x hx y hy => by simp at hy; subst hy; exact fun e => hns2 (e ▸ hx)⟩
        have hm3 : ∀ x ∈ sn2 ++ [b2], x ∈ bs2 := fun x hx => by
          rcases List.mem_append.1 hx with hx | hx
          · exact k2 x hx
          · simp at hx; subst hx; exact hbm2
        have hlen3' := hnat2 _ hn3 hm3
        have hsl2 : (sn2 ++ [b2]).length = sn2.length + 1 := by simp
        rw [hsl2] at hlen3'
        have hmA : (((u8.set σ.length A).set mj (0, some (.miter e.tid 0 c2 sn2 c2))).set mj (0, some (.miter e.tid 0 c2 (sn2 ++ [b2]) c2))) = (u8.set σ.length A).set mj (0, some (.miter e.tid 0 c2 (sn2 ++ [b2]) c2)) := List.set_set ..
        rw [hmA]
        have hm10 : ((u8.set σ.length A).set mj (0, some (.miter e.tid 0 c2 (sn2 ++ [b2]) c2)))[mj]? = some (0, some (.miter e.tid 0 c2 (sn2 ++ [b2]) c2)) := set_eq (y := (0, some (.miter e.tid 0 c2 [] c2))) (by rw [set_ne hgj.symm]; exact hmj8)
        have ht10 : ((u8.set σ.length A).set mj (0, some (.miter e.tid 0 c2 (sn2 ++ [b2]) c2)))[e.tid]? = some (0, some (.map (tilK e.till) (some (bs2, c2)))) := by rw [set_ne htj, set_ne hgt.symm]; exact hte8
        have hg10 : ((u8.set σ.length A).set mj (0, some (.miter e.tid 0 c2 (sn2 ++ [b2]) c2)))[σ.length]? = some (o2.length, some (.cells (lsC o2) ⟨false, none⟩)) := by rw [set_ne hgj, set_eq hg8, hA]
        obtain ⟨G, hG⟩ : ∃ G : Nat × Option Box, G = (o2.length + 1, some (.cells (lsC (o2 ++ [leP e.name e.till[k]])) ⟨false, none⟩)) := ⟨_, rfl⟩
        have hl1 : (o2 ++ [leP e.name e.till[k]]).length = o2.length + 1 := by simp
        have hbig : o2.length ≤ 2000000 := by have := hb.el; omega
        refine pao [.b true, .v (.tup [.int .i64 e.till[k].1, .int .i64 e.till[k].2]), .f (.ms σ.length (o2.length + 1) 0 (o2.length + 1) 3 false) (fun s => s.set σ.length G)] rfl ?_ ?_
        · (repeat' with_reducible apply AllP_cons) <;> try exact aC
          · exact OpSpec.entryG rfl rfl hm10 ht10 hb2 hkv2
          · refine OpSpec.appendX (id := σ.length) (ver := o2.length) (off := 0) (len := o2.length) (y := .agg (leP e.name e.till[k]).cells) (cs := lsC o2) rfl rfl rfl rfl rfl ?_ hg10 ?_ ?_ ?_ ?_
            · intro z hz
              have hz : z ∈ (leP e.name e.till[k]).cells := hz
              exact lsC_one [leP e.name e.till[k]] z (by unfold lsC; simpa using hz)
            · rw [lsC_len]; omega
            · show (o2.length + 1) * 32 ≤ _; omega
            · omega
            · rw [hG, ← lsC_snoc]; rfl
        refine S_round (sn2 ++ [b2], o2 ++ [leP e.name e.till[k]]) (by show bs2.length - (sn2 ++ [b2]).length < bs2.length - sn2.length; rw [hsl2]; omega) ⟨hn3, hm3, ?_, ?_⟩ (.cons rfl (.cons (by rw [hl1]; rfl) (.cons rfl (.cons rfl (.cons rfl (.nil _)))))) ?_
        · show o2 ++ [leP e.name e.till[k]] = out ++ (sn2 ++ [b2]).flatMap look2
          rw [List.flatMap_append, List.flatMap_cons, hlk2, k3]; simp
        · show (o2 ++ [leP e.name e.till[k]]).length = out.length + (sn2 ++ [b2]).length
          rw [hl1, hsl2]; omega
        · show ((u8.set σ.length A).set mj _).set σ.length G = (u8.set σ.length _).set mj _
          rw [List.set_comm _ _ hgj.symm, List.set_set, hG, hl1]
      · intro hall2
        refine S_unstamp (id := e.tid) ht9 ?_ ⟨.skip, _, .inr ⟨_, _, _, rfl⟩⟩
        obtain ⟨W3, hW3⟩ : ∃ W3 : Heap, W3 = (((u8.set σ.length A).set mj (0, some (.miter e.tid 0 c2 sn2 c2))).set e.tid (0, some (.map (tilK e.till) none))) := ⟨_, rfl⟩
        refine S_heap W3 hW3.symm ?_
        have haW : Alive W3 := by rw [hW3]; exact Alive.set (Alive.set (by rw [hA]; exact Alive.set hal8 _ _ _) _ _ _) _ _ _
        have hoW : ∀ id, id < u6.length → id ≠ σ.length → W3[id]? = u6[id]? := fun id h1 h2 => by
          by_cases h3 : id = e.tid
          · subst h3; rw [hW3, set_eq ht9, hte]
          · rw [hW3, set_ne h3, set_ne (show id ≠ mj by omega), set_ne h2]; exact hot8 id (by omega) h3
        have hgW : W3[σ.length]? = some (o2.length, some (.cells (lsC o2) ⟨false, none⟩)) := by rw [hW3, set_ne hgt, set_ne hgj, set_eq hg8, hA]
        have hmW : W3[σ.length + 1]? = some (0, some (.miter mid 0 c0 (sn ++ [b]) c0)) := by rw [hoW _ (lt_of_get hm6) (by omega)]; exact hm6
        have hLW : LAt W3 q mid (some (bs, c0)) t now es := hL6.mono haW fun id ho => hoW id (hL6.lt id ho) (fun x => by subst x; exact hno _ (Nat.le_refl _) ho)
        have hlW : W3.length = u6.length + 1 := by rw [hW3, List.length_set, List.length_set, List.length_set]; omega
        have hKW : QKeep σ W3 (OwnL q mid es) (OwnL q mid es) := ⟨by have := hK6.len; omega, fun id hid hn => (hoW id (by have := hK6.len; omega) (by omega)).trans (hK6.same id hid hn), hK6.new⟩
        have hp2 : sn2.Perm bs2 := (List.perm_ext_iff_of_nodup k1 hn2').2 fun a => ⟨k2 a, hall2 a⟩
        have hfs : ∀ l : List (Int × Int), l.flatMap (fun p => [leP e.name p]) = l.map (leP e.name) := fun l => by
          induction l with
          | nil => rfl
          | cons x r ih => rw [List.flatMap_cons, List.map_cons, ih]; rfl
        have hpl : (sn2.flatMap look2).Perm (leJ e) := by
          refine (hp2.flatMap_right look2).trans ?_
          rw [hlook2, gotL_all _ bs2 e.till hl2 hn2', hfs]
          exact .refl _
        have hl3 := hnat2 _ k1 k2
        refine pao [.b false] rfl ?_ ?_
        · (repeat' with_reducible apply AllP_cons) <;> try exact aC
        refine S_round (W3, sn ++ [b], o2) (by show bs.length - (sn ++ [b]).length < bs.length - sn.length; rw [hsl]; omega) ⟨hLW, hKW, hgW, hmW, hn2, hm2, ?_, ?_⟩ (.cons rfl (.cons rfl (.cons rfl (.nil _)))) rfl
        · show o2.Perm ((sn ++ [b]).flatMap look)
          rw [k3, List.flatMap_append, List.flatMap_cons, hlk, List.flatMap_nil, List.append_nil]
          exact hs3.append hpl
        · show o2.length ≤ (sn ++ [b]).length * 1000
          rw [hsl, Nat.add_mul]; omega
    · intro hall
      refine pao [.b false, .s] rfl ?_ ?_
      · (repeat' with_reducible apply AllP_cons) <;> try exact aC
      refine S_unstamp (id := mid) hL.mb ?_ ⟨.skip, _, .inr ⟨_, _, _, rfl⟩⟩
      have hL5 := hL.stamp none
      have hK5 : QKeep σ (u.set mid (0, some (.map (entK es) none))) (OwnL q mid es) (OwnL q mid es) := hK.setO own_m _
      have hg5 : (u.set mid (0, some (.map (entK es) none)))[σ.length]? = some (out.length, some (.cells (lsC out) ⟨false, none⟩)) := by rw [set_ne hgm]; exact hg
      generalize u.set mid (0, some (.map (entK es) none)) = u5 at *
      have hp : sn.Perm bs := (List.perm_ext_iff_of_nodup hs1 hbn).2 fun a => ⟨hs2 a, hall a⟩
      have hpo : out.Perm (allL es) := by
        refine hs3.trans ((hp.flatMap_right look).trans ?_)
        rw [hlook, gotL_all leJ bs es hbl hbn]
        exact .refl _
      have hS := SortL_any out (by have := hnat sn hs1 hs2; have := hb.el; have : sn.length * 1000 ≤ 1000 * 1000 := Nat.mul_le_mul_right _ (by omega); omega) ((hpo.map _).nodup_iff.2 (allL_nd hb.nn hb.tl)) hg5
      refine pao [] rfl ?_ ?_
      · (repeat' with_reducible apply AllP_cons) <;> try exact aC
      refine S_call rfl rfl rfl hS (fun v s hR => ?_) (fun v s hR => by obtain ⟨hR, _⟩ := hR; cases hR)
      obtain ⟨hR, o3, hp3, hw3, rfl⟩ := hR
      cases hR
      refine pao [] rfl ?_ ?_
      · (repeat' with_reducible apply AllP_cons) <;> try exact aC
      have hl3 : out.length = o3.length := hp3.length_eq.symm
      refine S_ret ⟨_, _, rfl, trivial, σ.length, out.length, o3, ?_, Nat.le_refl _, set_eq hg5, hp3.trans hpo, hw3, ?_, hK5.set (Nat.le_refl _) _⟩
      · rw [← hl3]; rfl
      · refine hL5.mono (Alive.set hL5.al _ _ _) fun id ho => set_ne fun e => ?_
        subst e
        exact hno _ (Nat.le_refl _) ho
end Go.Proofs.Ytopdpbcfgjijaaa
end
section
set_option linter.unusedVariables false
set_option linter.unusedSimpArgs false
set_option maxRecDepth 20000
namespace Go.Proofs.Ytopdpbcfgjijaaa
open Go Go.Ab
def chooseN (c : Int) (n : Nat) : Nat := (if c < 0 then (-(c + 1)).toNat else c.toNat) % n
theorem choose_ok (c : Int) (n : Nat) (hc : -9223372036854775808 ≤ c ∧ c ≤ 9223372036854775807) (hn : 0 < n) (hn2 : n ≤ 9223372036854775807) : Calc cx 9 [.int .i64 c, .int .i64 n] (.int .i64 (chooseN c n)) :=
  pure_intro (fun a w => Try.call9 a w) Try.func9 rfl Try.ntmps9 rfl .int fun B => by
    refine ab 1000 rfl trivial ?_
    have hmod : ∀ m : Nat, ((m : Int).tmod n) = ((m % n : Nat) : Int) := fun m => rfl
    refine S_dec rfl (fun h => ?_) (fun h => ?_)
    · have hw : IntKind.i64.wrap (0 - IntKind.i64.wrap (c + 1)) = (((-(c + 1)).toNat : Nat) : Int) := by
        have e1 : IntKind.i64.wrap (c + 1) = c + 1 := IntWalk.i64_in _ ⟨by omega, by omega⟩
        rw [e1]
        exact w64 (by omega) (by omega)
      refine ab 1000 rfl ⟨by omega, trivial⟩ ?_
      refine S_retc .int rfl trivial ?_
      show AV.int .i64 ((IntKind.i64.wrap (0 - IntKind.i64.wrap (c + 1))).tmod n) = _
      rw [hw, hmod, chooseN, if_pos h]
    · refine ab 1000 rfl ⟨by omega, trivial⟩ ?_
      refine S_retc .int rfl trivial ?_
      obtain ⟨m, rfl⟩ := Int.eq_ofNat_of_zero_le (by omega : 0 ≤ c)
      show AV.int .i64 ((m : Int).tmod n) = _
      rw [hmod, chooseN, if_neg h, Int.toNat_natCast]
theorem chooseN_lt (c : Int) {n : Nat} (hn : 0 < n) : chooseN c n < n := Nat.mod_lt _ hn
end Go.Proofs.Ytopdpbcfgjijaaa
end
section
set_option linter.unusedVariables false
set_option linter.unusedSimpArgs false
set_option maxRecDepth 20000
namespace Go.Proofs.Ytopdpbcfgjijaaa
open Go Go.Ab
theorem HasText_ok {st fl : Bool} (l : List (List UInt8)) (s : List UInt8) (hl : l.length ≤ 9223372036854775806) : Calc cx 25 [.sl st fl 1 (texts l), .str s] (.bool (l.contains s)) :=
  pure_intro (fun a w => Try.call25 a w) Try.func25 rfl Try.ntmps25 rfl .bool fun B => by
    have htl := texts_len l
    refine ab 1000 rfl trivial ?_
    refine S_while (α := Nat) (fun i => [(0, .sl st fl 1 (texts l)), (1, .str s), (5, .int .i64 (i : Nat))]) (fun _ => []) (fun i => i ≤ l.length ∧ s ∉ l.take i) (fun i => l.length - i) 0
      ⟨Nat.zero_le _, by simp⟩ (.cons rfl (.cons rfl (.cons rfl (.nil _)))) rfl ?_
    rintro i ⟨hi, hN⟩
    have hi : i ≤ l.length := hi
    refine ab 1000 rfl trivial ?_
    refine S_dec rfl (fun hlt => ?_) (fun hlt => ?_)
    · have hil : i < l.length := by have : (i : Int) < ((texts l).length : Nat) := hlt; omega
      refine ab 1000 rfl trivial ?_
      refine S_index (.str l[i]) rfl rfl rfl ⟨rfl, by omega, by rw [Int.toNat_natCast]; exact texts_get hil, trivial⟩ ?_
      refine ab 1000 rfl trivial ?_
      refine S_cond rfl (fun h => ?_) (fun h => ?_)
      · have h : l[i] = s := by simpa using (show (l[i] == s) = true from h)
        refine ab 1000 rfl trivial ?_
        refine S_retc .bool rfl trivial ?_
        rw [List.contains_iff_mem.2 (by rw [← h]; exact List.getElem_mem hil)]; rfl
      · have h : l[i] ≠ s := by simpa using (show (l[i] == s) = false from h)
        refine ab 1000 rfl trivial ?_
        refine S_round (i + 1) (by show l.length - (i + 1) < l.length - i; omega) ⟨hil, fun hm => ?_⟩ (.cons rfl (.cons rfl (.cons (ai64 rfl (by omega)) (.nil _)))) rfl
        rw [List.take_succ_eq_append_getElem hil] at hm
        rcases List.mem_append.1 hm with hm | hm
        · exact hN hm
        · simp at hm; exact h hm.symm
    · have hil : i = l.length := by have : ¬ (i : Int) < ((texts l).length : Nat) := hlt; omega
      rw [hil, List.take_length] at hN
      refine ab 1000 rfl trivial ?_
      refine S_retc .bool rfl trivial ?_
      have : l.contains s = false := by
        cases h : l.contains s with
        | false => rfl
        | true => exact absurd (List.contains_iff_mem.1 h) hN
      rw [this]; rfl
end Go.Proofs.Ytopdpbcfgjijaaa
end
section
set_option linter.unusedVariables false
set_option linter.unusedSimpArgs false
set_option maxRecDepth 20000
set_option maxHeartbeats 4000000
namespace Go.Proofs.Ytopdpbcfgjijaaa
open Go Go.Ab
def newL (σ : Heap) (t : TM) : Heap := σ ++ [termB t, (0, some (.map [] none)), (0, some (bookB t 0 (σ.length + 1)))]
theorem newL_at (σ : Heap) (t : TM) (hal : Alive σ) : LAt (newL σ t) (σ.length + 2) (σ.length + 1) none t 0 [] := by
  have e : newL σ t = ((σ ++ [termB t]) ++ [(0, some (.map [] none))]) ++ [(0, some (bookB t 0 (σ.length + 1)))] := by unfold newL; simp
  refine ⟨?_, ?_, ?_, (fun e he => by cases he), (fun e he => by cases he), ?_⟩
  · rw [e]; exact Alive.app (Alive.app (Alive.app hal _ _) _ _) _ _
  · unfold newL
    rw [List.getElem?_append_right (by omega)]
    rw [show σ.length + 2 - σ.length = 2 by omega]; rfl
  · unfold newL
    rw [List.getElem?_append_right (by omega)]
    rw [show σ.length + 1 - σ.length = 1 by omega]; rfl
  · unfold idsL idsJ; simp
def sA : Nm := [97]
theorem add_A : addE [] sA = 0 := by decide
def jA (st tried : Int) (till : List (Int × Int)) (m : Nat) : JE := ⟨sA, st, tried, till, m + 1, m⟩
theorem bd_A {t : TM} (h1 : 1 ≤ t.last) (h2 : t.last ≤ 1000000000) (st tried : Int) (ht : 0 ≤ tried ∧ tried ≤ 1000) (till : List (Int × Int)) (hn : (till.map Prod.fst).Nodup) (m : Nat) : BdOk t [jA st tried till m] :=
  ⟨h1, h2, Nat.le_add_left 1 999, fun e he => by rw [List.mem_singleton.1 he]; exact ht, fun e he => by rw [List.mem_singleton.1 he]; exact hn⟩
theorem errT_1 {n now : Int} (h1 : 0 ≤ n) (h2 : n ≤ 1000000000) (h3 : now ≤ n) : errT n now [1] = 0 := by
  unfold errT
  rw [if_neg (by decide), if_neg, if_neg (by omega)]
  unfold witB
  simp [h1, h2]
theorem errT_0 {n now : Int} (h1 : 0 ≤ n) (h2 : n ≤ 1000000000) (h3 : now ≤ n) : errT n now [] = 0 := by
  unfold errT
  rw [if_neg (by decide), if_neg, if_neg (by omega)]
  unfold witB
  simp [h1, h2]
theorem grant_A (t : TM) (h1 : 1 ≤ t.tries) (h2 : 1 ≤ t.twins) (m : Nat) : grantS t 0 0 1 sA [newJ sA m] = (0, 0, [jA 2 1 [(1, t.last)] m]) := by
  unfold grantS
  rw [if_pos (by decide)]
  have e1 : [newJ sA m].map (tickE t.tries 0) = [newJ sA m] := rfl
  rw [e1]
  have e2 : atL [newJ sA m] sA = some 0 := rfl
  rw [e2]
  have e3 : [newJ sA m][0]? = some (newJ sA m) := rfl
  simp only [e3]
  have e4 : grC t 1 (newJ sA m) = 0 := by
    unfold grC
    have a1 : ¬ ((newJ sA m).st = 3 ∨ (newJ sA m).st = 4) := show ¬ ((1 : Int) = 3 ∨ (1 : Int) = 4) by decide
    have a2 : ¬ ((hasW (newJ sA m).till 1).isSome = true) := show ¬ ((hasW [] 1).isSome = true) by decide
    rw [if_neg a1, if_neg a2, if_neg]
    rintro (h | h)
    · have : ((0 : Nat) : Int) = t.twins := h
      omega
    · have : (0 : Int) = t.tries := h
      omega
  rw [if_pos e4]
  show ((0 : Int), (0 : Int), [grE t 0 1 (newJ sA m)]) = _
  have e5 : grE t 0 1 (newJ sA m) = jA 2 1 [(1, 0 + t.last)] m := rfl
  rw [e5, Int.zero_add]
theorem leaseBegun_ok : Calc cx 6 [] (.bool true) :=
  pure_intro (fun a w => Try.call6 a w) Try.func6 rfl Try.ntmps6 rfl .bool fun B => by
    have hN := New_ok [] ⟨5, 2, 1⟩ (fun e he => by cases he) (by decide)
    have hL : LAt (newL [] ⟨5, 2, 1⟩) 2 1 none ⟨5, 2, 1⟩ 0 [] := newL_at [] _ (fun e he => by cases he)
    refine pao [.f (.tup [.ptr 2 0 0, .int .i64 0]) (fun s => s ++ [termB ⟨5, 2, 1⟩, (0, some (.map [] none)), (0, some (bookB ⟨5, 2, 1⟩ 0 1))]), .b false, .b false] rfl ?_ ?_
    · (repeat' with_reducible apply AllP_cons) <;> try exact aC
    refine S_heap (newL [] ⟨5, 2, 1⟩) rfl ?_
    have hA := Add_ok (newL [] ⟨5, 2, 1⟩) 2 1 ⟨5, 2, 1⟩ 0 [] sA hL (by decide) (by decide) add_A
    refine S_call rfl rfl rfl hA (fun v s hR => ?_) (fun v s hR => by obtain ⟨hR, _⟩ := hR; cases hR)
    obtain ⟨hR, hL1, _⟩ := hR
    cases hR
    have hL1 : LAt s 2 1 none ⟨5, 2, 1⟩ 0 [newJ sA 3] := hL1
    have hG := Grant_ok s 2 1 ⟨5, 2, 1⟩ 0 0 1 [newJ sA 3] sA hL1 (bd_A (by decide) (by decide) 1 0 (by decide) [] (by decide) 3)
    rw [grant_A ⟨5, 2, 1⟩ (by decide) (by decide)] at hG
    refine pao [] rfl ?_ ?_
    · (repeat' with_reducible apply AllP_cons) <;> try exact aC
    refine S_call rfl rfl rfl hG (fun v s2 hR => ?_) (fun v s hR => by obtain ⟨hR, _⟩ := hR; cases hR)
    obtain ⟨hR, hL2, _⟩ := hR
    cases hR
    have hL2 : LAt s2 2 1 none ⟨5, 2, 1⟩ 0 [jA 2 1 [(1, 5)] 3] := hL2
    have hS := State_ok s2 2 1 ⟨5, 2, 1⟩ 0 _ sA hL2
    have hS : CallOk cx 21 [.ptr 2 0 0, .str sA] s2 (fun o s => o = .ret (.tup [.int .i64 2, .int .i64 1]) ∧ s = s2) := hS
    refine pao [.k (.tup [.int .i64 2, .int .i64 1]), .b true, .b true, .b true] rfl ?_ ?_
    · (repeat' with_reducible apply AllP_cons) <;> try exact aC
    exact S_ret ⟨_, _, rfl, trivial, _, rfl, .refl .bool⟩
theorem beat_A (t : TM) (n : Int) (h1 : 0 ≤ n) (h2 : n ≤ t.last) (h3 : n ≤ 1000000000) (m : Nat) : actS (beE t n 1) t 0 n 1 sA [jA 2 1 [(1, t.last)] m] = (0, n, [jA 2 1 [(1, n + t.last)] m]) := by
  unfold actS
  rw [if_pos (errT_1 h1 h3 h1)]
  have e1 : [jA 2 1 [(1, t.last)] m].map (tickE t.tries n) = [jA 2 1 [(1, t.last)] m] := by
    have hl : liv n [(1, t.last)] = [(1, t.last)] := by
      unfold liv
      rw [List.filter_cons_of_pos (by simpa using h2)]; rfl
    show [freeE t.tries { jA 2 1 [(1, t.last)] m with till := liv n [(1, t.last)] }] = _
    rw [hl]; rfl
  rw [e1]
  have e2 : fndL [jA 2 1 [(1, t.last)] m] sA 1 = some 0 := rfl
  rw [e2]
  rfl
theorem tick_A (t : TM) (n x : Int) (m : Nat) : [jA 2 1 [(1, x)] m].map (tickE t.tries n) = [if x < n then jA (if (1 : Int) = t.tries then 4 else 1) 1 [] m else jA 2 1 [(1, x)] m] ∧ goneL n [jA 2 1 [(1, x)] m] = if x < n then [sA] else [] := by
  by_cases h : x < n
  · have hl : liv n [(1, x)] = [] := by
      unfold liv
      rw [List.filter_cons_of_neg (by simpa using h)]; rfl
    have hg : goneE n (jA 2 1 [(1, x)] m) = true := by
      show frees { jA 2 1 [(1, x)] m with till := liv n [(1, x)] } = true
      rw [hl]; rfl
    rw [if_pos h, if_pos h]
    refine ⟨?_, ?_⟩
    · show [freeE t.tries { jA 2 1 [(1, x)] m with till := liv n [(1, x)] }] = _
      rw [hl]; rfl
    · unfold goneL
      rw [List.filter_cons_of_pos hg]
      show sortT [sA] = [sA]
      exact List.perm_singleton.1 (sortT_perm [sA])
  · have hl : liv n [(1, x)] = [(1, x)] := by
      unfold liv
      rw [List.filter_cons_of_pos (by simpa using h)]; rfl
    have hg : goneE n (jA 2 1 [(1, x)] m) = false := by
      show frees { jA 2 1 [(1, x)] m with till := liv n [(1, x)] } = false
      rw [hl]; rfl
    rw [if_neg h, if_neg h]
    refine ⟨?_, ?_⟩
    · show [freeE t.tries { jA 2 1 [(1, x)] m with till := liv n [(1, x)] }] = _
      rw [hl]; rfl
    · unfold goneL
      rw [List.filter_cons_of_neg (by rw [hg]; simp)]
      exact List.perm_nil.1 (sortT_perm [])
theorem done_over (f : JE → JE) (t : TM) (n st : Int) (h1 : 0 ≤ n) (h3 : n ≤ 1000000000) (m : Nat) : codeS (actS f t n n 1 sA [jA st 1 [] m]) = 5 := by
  unfold actS
  rw [if_pos (errT_1 h1 h3 (Int.le_refl _))]
  have e2 : fndL ([jA st 1 [] m].map (tickE t.tries n)) sA 1 = none := by
    unfold fndL
    have ha : atL ([jA st 1 [] m].map (tickE t.tries n)) sA = some 0 := by
      unfold atL
      rw [List.map_cons, List.findIdx?_cons]
      rw [(tickE_jid _ _ _).2.2.1]; rfl
    rw [ha]
    show (match hasW (tickE t.tries n (jA st 1 [] m)).till 1 with | none => none | some _ => some 0) = none
    rw [(tickE_jid _ _ _).2.2.2.1]; rfl
  rw [e2]; rfl
theorem done_in (f : JE → JE) (t : TM) (n x : Int) (h1 : 0 ≤ n) (h3 : n ≤ 1000000000) (hx : ¬ x < n) (m : Nat) : codeS (actS f t n n 1 sA [jA 2 1 [(1, x)] m]) = 0 := by
  unfold actS
  rw [if_pos (errT_1 h1 h3 (Int.le_refl _)), (tick_A t n x m).1, if_neg hx]
  have e2 : fndL [jA 2 1 [(1, x)] m] sA 1 = some 0 := rfl
  rw [e2]; rfl
end Go.Proofs.Ytopdpbcfgjijaaa
end
section
set_option linter.unusedVariables false
set_option linter.unusedSimpArgs false
set_option maxRecDepth 20000
set_option maxHeartbeats 4000000
namespace Go.Proofs.Ytopdpbcfgjijaaa
open Go Go.Ab
theorem lv_A (st tried : Int) (till : List (Int × Int)) (m : Nat) (hn : (till.map Prod.fst).Nodup) (hl : till.length ≤ 1000) : LvOk [jA st tried till m] :=
  ⟨Nat.le_add_left 1 999, fun e he => by rw [List.mem_singleton.1 he]; exact hn, fun e he => by rw [List.mem_singleton.1 he]; exact hl, List.nodup_cons.2 ⟨List.not_mem_nil, .nil⟩⟩
theorem nd1 (x : Int) : (([((1 : Int), x)] : List (Int × Int)).map Prod.fst).Nodup := List.nodup_cons.2 ⟨List.not_mem_nil, .nil⟩
theorem LeaseOver_ok (t : TM) (wait beat more : Int) (hw : -9223372036854775808 ≤ wait ∧ wait ≤ 9223372036854775807) (hbt : -9223372036854775808 ≤ beat ∧ beat ≤ 9223372036854775807) (hmo : -9223372036854775808 ≤ more ∧ more ≤ 9223372036854775807) :
    Calc cx 5 [termA t, .int .i64 wait, .int .i64 beat, .int .i64 more] (.bool true) :=
  pure_intro (fun a w => Try.call5 a w) Try.func5 rfl Try.ntmps5 rfl .bool fun B => by
    have hBg := leaseBegun_ok
    have hal0 : Alive ([] : Heap) := fun e he => by cases he
    have hal1 : Alive [termB t] := fun e he => by rw [List.mem_singleton.1 he]; exact ⟨_, rfl⟩
    refine pao [.f (.ptr 0 0 0) (fun s => s ++ [termB t]), .v (.bool true), .b false, .v (termA t), .s] rfl ?_ ?_
    · (repeat' with_reducible apply AllP_cons) <;> try exact aC
      · exact OpSpec.boxE (y := termA t) rfl rfl rfl rfl hal0
      · exact ⟨[], hBg, .nil _⟩
      · exact OpSpec.loadPA (id := 0) (cs := (termA t).cells) rfl rfl rfl rfl rfl (lble rfl) rfl
    refine S_heap [termB t] rfl ?_
    cases htk : termOk t with
    | false =>
      have hN := New_bad [termB t] t hal1 htk
      refine pao [.f (.tup [.nilp, .int .i64 3]) (fun s => s ++ [termB t]), .b true, .b true] rfl ?_ ?_
      · (repeat' with_reducible apply AllP_cons) <;> try exact aC
      exact S_ret ⟨_, _, rfl, trivial, _, rfl, .refl .bool⟩
    | true =>
      have hN := New_ok [termB t] t hal1 htk
      have hL0 : LAt (newL [termB t] t) 3 2 none t 0 [] := newL_at [termB t] t hal1
      have hlow : (newL [termB t] t)[0]? = some (termB t) := rfl
      have hbounds : 1 ≤ t.last ∧ t.last ≤ 1000000000 ∧ 1 ≤ t.tries ∧ 1 ≤ t.twins := by
        unfold termOk witB at htk
        simp only [Bool.and_eq_true, decide_eq_true_eq] at htk
        omega
      obtain ⟨hl1, hl2, hl3, hl4⟩ := hbounds
      refine pao [.f (.tup [.ptr 3 0 0, .int .i64 0]) (fun s => s ++ [termB t, (0, some (.map [] none)), (0, some (bookB t 0 2))]), .b false, .b false] rfl ?_ ?_
      · (repeat' with_reducible apply AllP_cons) <;> try exact aC
      refine S_heap (newL [termB t] t) rfl ?_
      have hA := Add_ok (newL [termB t] t) 3 2 t 0 [] sA hL0 (by decide) (by decide) add_A
      refine S_call rfl rfl rfl hA (fun v s1 hR => ?_) (fun v s hR => by obtain ⟨hR, _⟩ := hR; cases hR)
      obtain ⟨hR, hL1, hK1⟩ := hR
      cases hR
      have hL1 : LAt s1 3 2 none t 0 [newJ sA 4] := hL1
      have h01 : s1[0]? = some (termB t) := by
        rw [hK1.same 0 (Nat.zero_lt_succ _) (by unfold OwnL idsL idsJ; simp)]; exact hlow
      refine pao [.b false] rfl ?_ ?_
      · (repeat' with_reducible apply AllP_cons) <;> try exact aC
      have hG := Grant_ok s1 3 2 t 0 0 1 [newJ sA 4] sA hL1 (bd_A hl1 hl2 1 0 (by decide) [] (by decide) 4)
      rw [grant_A t hl3 hl4] at hG
      refine S_call rfl rfl rfl hG (fun v s2 hR => ?_) (fun v s hR => by obtain ⟨hR, _⟩ := hR; cases hR)
      obtain ⟨hR, hL2, hK2⟩ := hR
      cases hR
      have hL2 : LAt s2 3 2 none t 0 [jA 2 1 [(1, t.last)] 4] := hL2
      have hown : ∀ st tried till, ¬ OwnL 3 2 [jA st tried till 4] 0 := fun st tried till => by unfold OwnL idsL idsJ jA; simp
      have h02 : s2[0]? = some (termB t) := by
        rw [hK2.same 0 (lt_of_get h01) (hown 1 0 [])]; exact h01
      obtain ⟨L, hL⟩ : ∃ L : Nat, t.last = (L : Int) := ⟨t.last.toNat, by omega⟩
      have hwL : IntKind.i64.wrap (t.last + 1) = ((L + 1 : Nat) : Int) := w64 (by omega) (by omega)
      have hC1 := choose_ok beat (L + 1) hbt (by omega) (by omega)
      have hat := chooseN_lt beat (show 0 < L + 1 by omega)
      generalize chooseN beat (L + 1) = at1 at *
      refine pao [.b false, .v (.int .i64 t.last), .v (.int .i64 (at1 : Nat))] rfl ?_ ?_
      · (repeat' with_reducible apply AllP_cons) <;> try exact aC
        · exact OpSpec.loadP rfl rfl rfl rfl h02 rfl
        · refine ⟨_, hC1, .cons (.refl .int) (.cons ?_ (.nil _))⟩
          show Frz false _ (AV.int .i64 (IntKind.i64.wrap (t.last + 1))) _
          rw [hwL]; exact .refl .int
      have hBt := Beat_ok s2 3 2 t 0 (at1 : Nat) 1 [jA 2 1 [(1, t.last)] 4] sA hL2 (bd_A hl1 hl2 2 1 (by decide) _ (nd1 _) 4)
      rw [beat_A t (at1 : Nat) (by omega) (by omega) (by omega)] at hBt
      refine S_call rfl rfl rfl hBt (fun v s3 hR => ?_) (fun v s hR => by obtain ⟨hR, _⟩ := hR; cases hR)
      obtain ⟨hR, hL3, hK3⟩ := hR
      cases hR
      have hL3 : LAt s3 3 2 none t (at1 : Nat) [jA 2 1 [(1, (at1 : Nat) + t.last)] 4] := hL3
      have h03 : s3[0]? = some (termB t) := by
        rw [hK3.same 0 (lt_of_get h02) (hown 2 1 _)]; exact h02
      have hw2 : IntKind.i64.wrap (2 * t.last) = ((2 * L : Nat) : Int) := w64 (by omega) (by omega)
      have hC2 := choose_ok wait (2 * L) hw (by omega) (by omega)
      have hwt := chooseN_lt wait (show 0 < 2 * L by omega)
      generalize chooseN wait (2 * L) = wt at *
      refine pao [.b false, .v (.int .i64 t.last), .v (.int .i64 (wt : Nat)), .s] rfl ?_ ?_
      · (repeat' with_reducible apply AllP_cons) <;> try exact aC
        · exact OpSpec.loadP rfl rfl rfl rfl h03 rfl
        · refine ⟨_, hC2, .cons (.refl .int) (.cons ?_ (.nil _))⟩
          show Frz false _ (AV.int .i64 (IntKind.i64.wrap (2 * t.last))) _
          rw [hw2]; exact .refl .int
      have hnw : IntKind.i64.wrap ((at1 : Int) + (wt : Int)) = ((at1 + wt : Nat) : Int) := w64 (by omega) (by omega)
      obtain ⟨nw, hnwd⟩ : ∃ nw : Nat, nw = at1 + wt := ⟨_, rfl⟩
      rw [← hnwd] at hnw
      by_cases hbig : nw > 1000000000
      · have c1 : decide (IntKind.i64.wrap ((at1 : Int) + (wt : Int)) > 1000000000) = true := by rw [hnw]; exact decide_eq_true (by omega)
        refine pao [.b true] rfl ?_ ?_
        · (repeat' with_reducible apply AllP_cons) <;> try exact aC
        exact S_ret ⟨_, _, rfl, trivial, _, rfl, .refl .bool⟩
      · have c1 : decide (IntKind.i64.wrap ((at1 : Int) + (wt : Int)) > 1000000000) = false := by rw [hnw]; exact decide_eq_false (by omega)
        refine pao [.b false] rfl ?_ ?_
        · (repeat' with_reducible apply AllP_cons) <;> try exact aC
        have hTk := Tick_ok s3 3 2 t (at1 : Nat) (nw : Nat) _ hL3 (bd_A hl1 hl2 2 1 (by decide) _ (nd1 _) 4).tl (Nat.le_add_left 1 999) (errT_0 (by omega) (by omega) (by omega))
        rw [(tick_A t (nw : Nat) _ 4).1, (tick_A t (nw : Nat) _ 4).2] at hTk
        refine S_calle rfl rfl rfl (by rw [← hnw]; rfl) hTk (fun v s4 hR => ?_) (fun v s hR => by obtain ⟨w, wv, hR, _⟩ := hR; cases hR)
        obtain ⟨ow, wv, hR, hlow4, hg4, hL4, hK4⟩ := hR
        cases hR
        have h04 : s4[0]? = some (termB t) := by
          rw [hK4.same 0 (lt_of_get h03) (hown 2 1 _)]; exact h03
        have how : ow ≠ 0 := by have := lt_of_get h03; omega
        have hwa : IntKind.i64.wrap ((at1 : Int) + t.last) = (at1 : Int) + t.last := IntWalk.i64_in _ ⟨by omega, by omega⟩
        have hC3 := choose_ok more 2 hmo (by omega) (by omega)
        generalize chooseN more 2 = mo at *
        have key : ∃ (ov : Bool) (st : Int) (till : List (Int × Int)) (g : List Nm) (dn : Int), LAt s4 3 2 none t (nw : Nat) [jA st 1 till 4] ∧ (till.map Prod.fst).Nodup ∧ till.length ≤ 1000 ∧ s4[ow]? = some (wv, some (.cells (texts g) ⟨false, none⟩)) ∧ g = (if (at1 : Int) + t.last < (nw : Int) then [sA] else []) ∧
            decide ((nw : Int) > (at1 : Int) + t.last) = ov ∧ ((((allL [jA st 1 till 4]).length : Nat) : Int) == 0) = ov ∧ g.contains sA = ov ∧ g.length ≤ 1000 ∧ (∀ good, codeS (actS (dnE t 1 good) t (nw : Nat) (nw : Nat) 1 sA [jA st 1 till 4]) = dn) ∧ (dn == 5) = ov ∧ (dn == 0) = !ov := by
          by_cases hov : (at1 : Int) + t.last < (nw : Int)
          · rw [if_pos hov] at hL4 hg4 ⊢
            exact ⟨true, _, [], [sA], 5, hL4, .nil, Nat.zero_le _, hg4, rfl, decide_eq_true hov, rfl, rfl, Nat.le_add_left 1 999, fun good => done_over _ t (nw : Nat) _ (by omega) (by omega) 4, rfl, rfl⟩
          · rw [if_neg hov] at hL4 hg4 ⊢
            exact ⟨false, 2, _, [], 0, hL4, nd1 _, Nat.le_add_left 1 999, hg4, rfl, decide_eq_false hov, rfl, rfl, Nat.zero_le _, fun good => done_in _ t (nw : Nat) _ (by omega) (by omega) hov 4, rfl, rfl⟩
        clear hL4 hg4
        obtain ⟨ov, st, till, g, dn, hL4, hnd, hln, hg4, hgd, v1, v2, v3, v4, v5, v6, v7⟩ := key
        rw [← hgd]
        have hLs := Leases_ok s4 3 2 t (nw : Nat) _ hL4 (lv_A st 1 till 4 hnd hln)
        refine pao [] rfl ?_ ?_
        · (repeat' with_reducible apply AllP_cons) <;> try exact aC
        refine S_call rfl rfl rfl hLs (fun v s5 hR => ?_) (fun v s hR => by obtain ⟨w, wv, out, hR, _⟩ := hR; cases hR)
        obtain ⟨w5, wv5, out, hR, hlow5, hg5, hpo, _, hL5, hK5⟩ := hR
        cases hR
        have h05 : s5[0]? = some (termB t) := by
          rw [hK5.same 0 (lt_of_get h04) (hown st 1 till)]; exact h04
        have hgt : ¬ OwnL 3 2 [jA st 1 till 4] ow := fun ho => by
          have h3 := hL3.lt ow (show OwnL 3 2 [jA 2 1 [(1, (at1 : Int) + t.last)] 4] ow from ho)
          omega
        have hg6 : s5[ow]? = some (wv, some (.cells (texts g) ⟨false, none⟩)) := by
          rw [hK5.same ow (lt_of_get hg4) hgt]; exact hg4
        have hpl : ((out.length : Int) == 0) = ov := by rw [hpo.length_eq]; exact v2
        have hHT := HasText_ok (st := false) (fl := false) g sA (by omega)
        rw [v3] at hHT
        have d1 : decide (IntKind.i64.wrap ((at1 : Int) + (wt : Int)) > IntKind.i64.wrap ((at1 : Int) + t.last)) = ov := by rw [hnw, hwa]; exact v1
        have hgb : boxAt s5 ow = some (wv, texts g, ⟨false, none⟩) := by simp [boxAt, hg6]
        refine pao [.v (.int .i64 t.last), .b false, .b false, .v (.bool ov), .b false, .v (.int .i64 (mo : Nat))] rfl ?_ ?_
        · (repeat' with_reducible apply AllP_cons) <;> try exact aC
          · exact OpSpec.loadP rfl rfl rfl rfl h05 rfl
          · rw [d1, hpl]; cases ov <;> rfl
          · exact ⟨_, hHT, .cons (Frz.ms1 hgb (texts_one _) (texts_len _) (texts_any _)) (.cons (.refl .str) (.nil _))⟩
          · rw [d1]; cases ov <;> rfl
          · exact ⟨_, hC3, .cons (.refl .int) (.cons (.refl .int) (.nil _))⟩
        have hD := Done_ok s5 3 2 t (nw : Nat) (nw : Nat) 1 _ sA ((mo : Int) == 0) hL5 (bd_A hl1 hl2 st 1 (by decide) till hnd 4)
        rw [v5] at hD
        refine S_calle rfl rfl rfl (by rw [← hnw]; rfl) hD (fun v s6 hR => ?_) (fun v s hR => by obtain ⟨hR, _⟩ := hR; cases hR)
        obtain ⟨hR, hL6, hK6⟩ := hR
        cases hR
        refine pao [.b true] rfl ?_ ?_
        · (repeat' with_reducible apply AllP_cons) <;> try exact aC
          · rw [d1, v6]; cases ov <;> rfl
        have e9 : ((dn == 0) != decide (IntKind.i64.wrap ((at1 : Int) + (wt : Int)) > IntKind.i64.wrap ((at1 : Int) + t.last))) = true := by rw [d1, v7]; cases ov <;> rfl
        refine S_ret ⟨_, _, rfl, trivial, _, rfl, ?_⟩
        show Frz true _ (AV.bool ((dn == 0) != decide (IntKind.i64.wrap ((at1 : Int) + (wt : Int)) > IntKind.i64.wrap ((at1 : Int) + t.last)))) _
        rw [e9]; exact .refl .bool
end Go.Proofs.Ytopdpbcfgjijaaa
end
section
set_option linter.unusedVariables false
set_option linter.unusedSimpArgs false
namespace Go.Ab
open Go Go.WideShapes
def laidB (P : Program) : List Field → Nat → Option Nat
  | [], o => some o
  | f :: r, o => match Nat.beq f.offset o with
    | true => laidB P r (o + P.cellsOf f.type)
    | false => none
mutual
def plainB (P : Program) : Nat → TypeId → Bool
  | 0, _ => false
  | n + 1, t => match P.underlying t with
    | some .bool => Nat.beq (P.cellsOf t) 1
    | some (.int _) => Nat.beq (P.cellsOf t) 1
    | some .string => Nat.beq (P.cellsOf t) 1
    | some (.slice e) => match Nat.beq (P.cellsOf t) 1, Nat.beq (P.cellsOf e) 0 with
      | true, false => plainB P n e
      | _, _ => false
    | some (.struct fs) => match laidB P fs.toList 0 with
      | some m => match Nat.beq (P.cellsOf t) m with
        | true => plainAll P n fs.toList
        | false => false
      | none => false
    | _ => false
def plainAll (P : Program) : Nat → List Field → Bool
  | 0, _ => false
  | n + 1, fs => match fs with
    | [] => true
    | f :: r => match plainB P n f.type with
      | true => plainAll P n r
      | false => false
end
inductive RdD (P : Program) {H : Type} : TypeId → DataW H → AV → Prop
  | bool {t b} (ht : P.underlying t = some .bool) : RdD P t (.lit (.bool b)) (.bool b)
  | int {t k n} (ht : P.underlying t = some (.int k)) (hw : (Lit.int k n).wf = true) : RdD P t (.lit (.int k n)) (.int k n)
  | str {t s} (ht : P.underlying t = some .string) (hs : s.length ≤ maxLen) : RdD P t (.lit (.string s)) (.str s)
  | nils {t e} (ht : P.underlying t = some (.slice e)) : RdD P t .nil (.sl true false (P.cellsOf e) [])
  | sl {t e} {ds rest : List (DataW H)} {xs : List AV} (ht : P.underlying t = some (.slice e)) (hl : xs.length = ds.length) (hm : xs.length ≤ maxLen) (h : ∀ i (h1 : i < ds.length) (h2 : i < xs.length), RdD P e ds[i] xs[i]) : RdD P t (.slice ds rest) (.sl true false (P.cellsOf e) xs)
  | st {t} {fs : Array Field} {ds : List (DataW H)} {xs : List AV} (ht : P.underlying t = some (.struct fs)) (hd : ds.length = fs.size) (hx : xs.length = fs.size) (h : ∀ i (h1 : i < ds.length) (h2 : i < xs.length) (h3 : i < fs.size), RdD P fs[i].type ds[i] xs[i]) : RdD P t (.agg ds) (.agg (xs.flatMap AV.cells))
def CellsV (w : World) (cs : List Value) (az : List AV) : Prop := cs.length = az.length ∧ ∀ i (h1 : i < cs.length) (h2 : i < az.length), VRel (Rl.old w) w cs[i] az[i]
theorem CellsV.one {w : World} {v : Value} {a : AV} (h : VRel (Rl.old w) w v a) : CellsV w [v] [a] := by
  refine ⟨rfl, fun i h1 h2 => ?_⟩
  obtain rfl : i = 0 := by simpa using h1
  exact h
theorem laidB_flat {P : Program} : ∀ (fs : List Field) (o m : Nat) (w : World) (cs : List Value) (xs : List AV), laidB P fs o = some m → xs.length = fs.length → (∀ i (h1 : i < fs.length) (h2 : i < xs.length), CellsV w ((cs.drop fs[i].offset).take (P.cellsOf fs[i].type)) xs[i].cells ∧ xs[i].cells.length = P.cellsOf fs[i].type) →
    cs.length = m → o ≤ m ∧ CellsV w (cs.drop o) (xs.flatMap AV.cells)
  | [], o, m, w, cs, xs, h, hl, hc, hm => by
    simp only [laidB, Option.some.injEq] at h
    obtain rfl : xs = [] := List.eq_nil_of_length_eq_zero hl
    subst h
    refine ⟨Nat.le_refl _, ?_⟩
    rw [List.drop_of_length_le (by omega)]
    exact ⟨rfl, fun i h => absurd h (by simp)⟩
  | f :: r, o, m, w, cs, xs, h, hl, hc, hm => by
    rw [laidB] at h
    split at h
    case h_2 => cases h
    rename_i hb
    have ho := Nat.eq_of_beq_eq_true hb
    obtain ⟨x, xs, rfl⟩ : ∃ x xs', xs = x :: xs' := by
      cases xs with
      | nil => simp at hl
      | cons x xs => exact ⟨x, xs, rfl⟩
    have h0 := hc 0 (by simp) (by simp)
    simp only [List.getElem_cons_zero] at h0
    obtain ⟨h1, h2⟩ := laidB_flat r (o + P.cellsOf f.type) m w cs xs h (by simpa using hl) (fun i k1 k2 => hc (i + 1) (Nat.succ_lt_succ k1) (Nat.succ_lt_succ k2)) hm
    refine ⟨by omega, ?_⟩
    obtain ⟨⟨e1, e2⟩, e3⟩ := h0
    rw [ho] at e1 e2
    rw [List.flatMap_cons]
    have hsplit : cs.drop o = (cs.drop o).take (P.cellsOf f.type) ++ cs.drop (o + P.cellsOf f.type) := by
      rw [← List.drop_drop, List.take_append_drop]
    rw [hsplit]
    refine ⟨by rw [List.length_append, List.length_append, e1, h2.1], fun i k1 k2 => ?_⟩
    by_cases hi : i < x.cells.length
    · rw [List.getElem_append_left (by omega), List.getElem_append_left hi]
      exact e2 i (by omega) hi
    · rw [List.getElem_append_right (by omega), List.getElem_append_right (by omega)]
      have : i - ((cs.drop o).take (P.cellsOf f.type)).length = i - x.cells.length := by omega
      simp only [this]
      exact h2.2 _ _ _
theorem read_cells {H : Type} {enc : TypeId × Value → H} {P : Program} {W : World} : ∀ (fuel n : Nat) (t : TypeId) (cs : List Value) (d : DataW H) (ps : List MemPlace), DataW.trod enc P W 0 (fun _ => true) true fuel t cs = some (d, ps) → plainB P n t = true →
    ∃ a, RdD P t d a ∧ a.cells.length = P.cellsOf t ∧ CellsV W cs a.cells ∧ (∀ v, (∃ xs, v = .agg xs ∧ xs.toList = cs ∧ aggT P t = some true) ∨ ([v] = cs ∧ aggT P t = some false) → VRel (Rl.old W) W v a) := by
  intro fuel
  induction fuel with
  | zero => intro n t cs d ps h _; simp [DataW.trod] at h
  | succ fuel ih =>
    intro n t cs d ps h hp
    have hall : ∀ (n : Nat) (fs : List Field), plainAll P n fs = true → ∀ i (hi : i < fs.length), ∃ m, plainB P m fs[i].type = true := by
      intro n
      induction n with
      | zero => intro fs h; simp [plainAll] at h
      | succ n ihn =>
        intro fs h i hi
        cases fs with
        | nil => simp at hi
        | cons f r =>
          rw [plainAll] at h
          split at h
          · rename_i hb
            cases i with
            | zero => exact ⟨n, hb⟩
            | succ i => exact ihn r h i (by simpa using hi)
          · cases h
    cases n with
    | zero => simp [plainB] at hp
    | succ n =>
      rw [plainB] at hp
      split at hp
      ·
        rename_i ht
        obtain ⟨b, rfl, hx⟩ := DataW.trod_bool ht h
        cases hx
        refine ⟨.bool b, .bool ht, (Nat.eq_of_beq_eq_true hp).symm, .one .bool, ?_⟩
        rintro v (⟨xs, rfl, h1, h2⟩ | ⟨h1, h2⟩)
        · simp [aggT, ht] at h2
        · cases h1; exact .bool
      · rename_i k ht
        obtain ⟨m, rfl, hx, hw⟩ := DataW.trod_int ht h
        cases hx
        refine ⟨.int _ m, .int ht hw, (Nat.eq_of_beq_eq_true hp).symm, .one .int, ?_⟩
        rintro v (⟨xs, rfl, h1, h2⟩ | ⟨h1, h2⟩)
        · simp [aggT, ht] at h2
        · cases h1; exact .int
      · rename_i ht
        obtain ⟨s, rfl, hx, hw⟩ := DataW.trod_string ht h
        cases hx
        refine ⟨.str s.data.toList, .str ht (by rw [Array.length_toList]; exact hw), (Nat.eq_of_beq_eq_true hp).symm, .one (.str rfl), ?_⟩
        rintro v (⟨xs, rfl, h1, h2⟩ | ⟨h1, h2⟩)
        · simp [aggT, ht] at h2
        · cases h1; exact .str rfl
      ·
        rename_i e ht
        split at hp
        case h_2 => cases hp
        rename_i hc1 hc0
        have hc1 := Nat.eq_of_beq_eq_true hc1
        have hpos : 0 < P.cellsOf e := by
          rcases Nat.eq_zero_or_pos (P.cellsOf e) with h0 | h0
          · rw [h0] at hc0; cases hc0
          · exact h0
        rcases DataW.trod_slice ht h with ⟨rfl, hx⟩ | ⟨a, len, cap, elems, rest, fu, hfu, rfl, hx, _, hl, hm, hlen, hel, hsp, hns⟩
        · cases hx
          refine ⟨_, .nils ht, hc1.symm, .one (.sl0 (fun h => by cases h)), ?_⟩
          rintro v (⟨xs, rfl, h1, h2⟩ | ⟨h1, h2⟩)
          · simp [aggT, ht] at h2
          · cases h1; exact .sl0 (fun h => by cases h)
        · cases hx
          obtain rfl : fuel = fu := by omega
          have each : ∀ i (hi : i < elems.length), ∃ x, RdD P e (elems[i]).1 x ∧ x.cells.length = P.cellsOf e ∧ ∃ ecs : List Value, W.cells? 0 (a.add (i * P.cellsOf e)) (P.cellsOf e) = some ecs ∧ CellsV W ecs x.cells := by
            intro i hi
            have h1 := hel i (by omega)
            rw [List.getElem?_eq_getElem hi, Option.bind_eq_some_iff] at h1
            obtain ⟨ecs, h2, h3⟩ := h1
            obtain ⟨x, k1, k2, k3, _⟩ := ih n e ecs (elems[i]).1 (elems[i]).2 h3 hp
            exact ⟨x, k1, k2, ecs, h2, k3⟩
          have : ∃ xs : List AV, xs.length = elems.length ∧ ∀ i (hi : i < elems.length) (hx : i < xs.length), RdD P e (elems[i]).1 xs[i] ∧ xs[i].cells.length = P.cellsOf e ∧ ∃ ecs : List Value, W.cells? 0 (a.add (i * P.cellsOf e)) (P.cellsOf e) = some ecs ∧ CellsV W ecs xs[i].cells := by
            refine ⟨(List.finRange elems.length).map fun i => Classical.choose (each i.1 i.2), by simp, fun i hi hx => ?_⟩
            simp only [List.getElem_map, List.getElem_finRange]
            exact Classical.choose_spec (each i hi)
          obtain ⟨xs, hxl, hxs⟩ := this
          have hv : VRel (Rl.old W) W (.slice (some a) len cap) (.sl true false (P.cellsOf e) xs) := by
            rcases Nat.eq_zero_or_pos len with h0 | h0
            · subst h0
              obtain rfl : xs = [] := List.eq_nil_of_length_eq_zero (by omega)
              exact .sl0 (fun h => by cases h)
            · obtain ⟨b, o, sp⟩ := a
              obtain ⟨_, _, ecs0, hc, _⟩ := hxs 0 (by omega) (by omega)
              obtain ⟨_, hcl, hcc⟩ := World.cells?_some hc
              have hcell0 := hcc 0 hpos
              rw [List.getElem?_eq_getElem (by omega)] at hcell0
              have hsp : sp = none := by
                cases sp with
                | none => rfl
                | some s =>
                  simp [Addr.add, World.cell?] at hcell0
                  split at hcell0 <;> cases hcell0
              subst hsp
              have hb : b < W.heap.size := by
                rw [Addr.add_lit] at hcell0
                rcases Nat.lt_or_ge b W.heap.size with h | h
                · exact h
                · simp [World.cell?, Addr.add, Array.getElem?_eq_none h] at hcell0
              have hcel : ∀ i, i < xs.length → ∀ j, j < P.cellsOf e → ∃ v, W.cell? ⟨b, o + i * P.cellsOf e + j, none⟩ = some v ∧ ∀ (hi : i < xs.length) (hj : j < (AV.cells xs[i]).length), VRel (Rl.old W) W v (AV.cells xs[i])[j] := by
                intro i hi j hj
                obtain ⟨_, hxc, ecs, hc, hcv⟩ := hxs i (by omega) hi
                obtain ⟨_, hcl, hcc⟩ := World.cells?_some hc
                have h1 := hcc j hj
                rw [List.getElem?_eq_getElem (by omega)] at h1
                rw [Addr.add_lit, Addr.add_lit] at h1
                refine ⟨ecs[j], h1, fun _ hj' => hcv.2 j _ hj'⟩
              refine .sl (by omega) hl (fun h => by cases h) hb (fun _ => hb) (fun x hx => ?_) (fun i j => (W.cell? ⟨b, o + i * P.cellsOf e + j, none⟩).getD undef) (fun i hi j hj => ?_) (fun i hi j hj => ?_)
              · obtain ⟨i, hi, rfl⟩ := List.getElem_of_mem hx
                exact (hxs i (by omega) hi).2.1
              · obtain ⟨v, h1, _⟩ := hcel i hi j hj
                rw [h1]; rfl
              · obtain ⟨v, h1, h2⟩ := hcel i hi j (by rw [(hxs i (by omega) hi).2.1] at hj; exact hj)
                rw [h1]
                exact h2 hi hj
          refine ⟨.sl true false (P.cellsOf e) xs, .sl ht (by simp [hxl]) (by omega) (fun i h1 h2 => by simpa using (hxs i (by simpa using h1) h2).1), hc1.symm, .one hv, ?_⟩
          rintro v (⟨ys, rfl, h1, h2⟩ | ⟨h1, h2⟩)
          · simp [aggT, ht] at h2
          · cases h1; exact hv
      ·
        rename_i fs ht
        split at hp
        case h_2 => cases hp
        rename_i m hm
        split at hp
        case h_2 => cases hp
        rename_i hcm
        have hcm := Nat.eq_of_beq_eq_true hcm
        obtain ⟨ys, fu, hfu, hx, hl, hyl, hy⟩ := DataW.trod_struct ht h
        obtain rfl : fuel = fu := by omega
        cases hx
        have each : ∀ i (hi : i < fs.toList.length) (hi' : i < ys.length), ∃ x, RdD P (fs.toList[i]).type (ys[i]).1 x ∧ x.cells.length = P.cellsOf (fs.toList[i]).type ∧ CellsV W ((cs.drop (fs.toList[i]).offset).take (P.cellsOf (fs.toList[i]).type)) x.cells := by
          intro i hi hi'
          have h1 := hy i (fs.toList[i]) (by simp at hi; simp [hi])
          rw [List.getElem?_eq_getElem hi'] at h1
          obtain ⟨k, hk⟩ := hall n fs.toList hp i hi
          obtain ⟨x, k1, k2, k3, _⟩ := ih k _ _ (ys[i]).1 (ys[i]).2 h1 hk
          exact ⟨x, k1, k2, k3⟩
        have hfl : fs.toList.length = ys.length := by simp [hyl]
        have : ∃ xs : List AV, xs.length = fs.toList.length ∧ ∀ i (hi : i < fs.toList.length) (hi' : i < ys.length) (hx : i < xs.length), RdD P (fs.toList[i]).type (ys[i]).1 xs[i] ∧ xs[i].cells.length = P.cellsOf (fs.toList[i]).type ∧ CellsV W ((cs.drop (fs.toList[i]).offset).take (P.cellsOf (fs.toList[i]).type)) xs[i].cells := by
          refine ⟨(List.finRange fs.toList.length).map fun i => Classical.choose (each i.1 i.2 (by omega)), by simp, fun i hi hi' hx => ?_⟩
          simp only [List.getElem_map, List.getElem_finRange]
          exact Classical.choose_spec (each i hi hi')
        obtain ⟨xs, hxl, hxs⟩ := this
        obtain ⟨_, hcv⟩ := laidB_flat fs.toList 0 m W cs xs hm hxl (fun i h1 h2 => ⟨(hxs i h1 (by omega) h2).2.2, (hxs i h1 (by omega) h2).2.1⟩) (by omega)
        rw [List.drop_zero] at hcv
        refine ⟨.agg (xs.flatMap AV.cells), .st ht (by simp [hyl]) (by simpa using hxl) (fun i h1 h2 h3 => by
          have := (hxs i (by simpa using h3) (by simpa using h1) h2).1
          simp only [Array.getElem_toList, List.getElem_map] at this ⊢
          exact this), by show (xs.flatMap AV.cells).length = _; rw [← hcv.1]; omega, hcv, ?_⟩
        rintro v (⟨zs, rfl, h1, h2⟩ | ⟨h1, h2⟩)
        · refine .agg (by rw [← hcv.1, ← h1]; simp) (fun i hi => ?_)
          have h3 : i < cs.length := by rw [hcv.1]; exact hi
          have := hcv.2 i h3 hi
          subst h1
          rw [Array.getD_eq_getD_getElem?, Array.getElem?_eq_getElem (by simpa using h3)]
          simpa using this
        · simp [aggT, ht] at h2
      · cases hp
theorem read_plain {H : Type} {enc : TypeId × Value → H} {P : Program} {W : World} {r : Reach} {base : Nat} {n : Nat} {t : TypeId} {v : Value} {d : DataW H} {ps : List MemPlace} (hp : plainB P n t = true) (hv : Value.okWide P W r base t v)
    (h : DataW.Trod enc P W 0 (fun _ => true) true t v d ps) : ∃ a, VRel (Rl.old W) W v a ∧ RdD P t d a := by
  obtain ⟨fuel, hf⟩ := h
  obtain ⟨a, h1, _, _, h2⟩ := read_cells fuel n t _ d ps hf hp
  refine ⟨a, h2 v ?_, h1⟩
  cases n with
  | zero => simp [plainB] at hp
  | succ n =>
    rw [plainB] at hp
    split at hp
    · rename_i ht
      obtain ⟨b, rfl⟩ := okWide_bool ht hv
      exact .inr ⟨rfl, by simp [aggT, ht]⟩
    · rename_i k ht
      obtain ⟨b, rfl⟩ := okWide_int ht hv
      exact .inr ⟨rfl, by simp [aggT, ht]⟩
    · rename_i ht
      obtain ⟨b, rfl⟩ := okWide_string ht hv
      exact .inr ⟨rfl, by simp [aggT, ht]⟩
    · rename_i e ht
      obtain ⟨a, len, cap, rfl⟩ := okWide_slice ht hv
      exact .inr ⟨rfl, by simp [aggT, ht]⟩
    · rename_i fs ht
      obtain ⟨cs, rfl, _⟩ := okWide_struct ht hv
      exact .inl ⟨cs, rfl, rfl, by simp [aggT, ht]⟩
    · cases hp
def RdDAll (P : Program) {H : Type} : List Field → List (DataW H) → List AV → Prop
  | [], [], [] => True
  | f :: fs, d :: ds, x :: xs => RdD P f.type d x ∧ RdDAll P fs ds xs
  | _, _, _ => False
theorem RdDAll.of {P : Program} {H : Type} : ∀ {fs : List Field} {ds : List (DataW H)} {xs : List AV}, ds.length = fs.length → xs.length = fs.length → (∀ i (h1 : i < ds.length) (h2 : i < xs.length) (h3 : i < fs.length), RdD P fs[i].type ds[i] xs[i]) → RdDAll P fs ds xs
  | [], ds, xs, h1, h2, _ => by
    obtain rfl : ds = [] := List.eq_nil_of_length_eq_zero h1
    obtain rfl : xs = [] := List.eq_nil_of_length_eq_zero h2
    trivial
  | f :: fs, ds, xs, h1, h2, h => by
    cases ds with
    | nil => simp at h1
    | cons d ds =>
      cases xs with
      | nil => simp at h2
      | cons x xs =>
        exact ⟨h 0 (by simp) (by simp) (by simp), RdDAll.of (by simpa using h1) (by simpa using h2) (fun i k1 k2 k3 => h (i + 1) (Nat.succ_lt_succ k1) (Nat.succ_lt_succ k2) (Nat.succ_lt_succ k3))⟩
theorem RdDAll.cons {P : Program} {H : Type} {f : Field} {fs : List Field} {ds : List (DataW H)} {xs : List AV} (h : RdDAll P (f :: fs) ds xs) : ∃ d ds' x xs', ds = d :: ds' ∧ xs = x :: xs' ∧ RdD P f.type d x ∧ RdDAll P fs ds' xs' := by
  match ds, xs, h with
  | d :: ds', x :: xs', ⟨h1, h2⟩ => exact ⟨d, ds', x, xs', rfl, rfl, h1, h2⟩
theorem RdDAll.nil {P : Program} {H : Type} {ds : List (DataW H)} {xs : List AV} (h : RdDAll P [] ds xs) : ds = [] ∧ xs = [] := by
  match ds, xs, h with
  | [], [], _ => exact ⟨rfl, rfl⟩
section
variable {P : Program} {H : Type} {t : TypeId} {d : DataW H} {a : AV}
theorem RdD.inv_st {fs : Array Field} (h : RdD P t d a) (ht : P.underlying t = some (.struct fs)) : ∃ ds xs, d = .agg ds ∧ a = .agg (xs.flatMap AV.cells) ∧ RdDAll P fs.toList ds xs := by
  cases h with
  | st ht' hd hx h =>
    rw [ht] at ht'
    cases ht'
    exact ⟨_, _, rfl, rfl, .of (by simpa using hd) (by simpa using hx) (fun i h1 h2 h3 => by simpa using h i h1 h2 (by simpa using h3))⟩
  | bool ht' => rw [ht] at ht'; cases ht'
  | str ht' => rw [ht] at ht'; cases ht'
  | int ht' => rw [ht] at ht'; cases ht'
  | nils ht' => rw [ht] at ht'; cases ht'
  | sl ht' => rw [ht] at ht'; cases ht'
theorem RdD.inv_int {k : IntKind} (h : RdD P t d a) (ht : P.underlying t = some (.int k)) : ∃ n, d = .lit (.int k n) ∧ a = .int k n ∧ (Lit.int k n).wf = true := by
  cases h with
  | int ht' hs => rw [ht] at ht'; cases ht'; exact ⟨_, rfl, rfl, hs⟩
  | bool ht' => rw [ht] at ht'; cases ht'
  | str ht' => rw [ht] at ht'; cases ht'
  | nils ht' => rw [ht] at ht'; cases ht'
  | sl ht' => rw [ht] at ht'; cases ht'
  | st ht' => rw [ht] at ht'; cases ht'
theorem RdD.each {α : Type} {e : TypeId} (f : α → AV) (g : α → DataW H → Prop) {ds : List (DataW H)} {xs : List AV} (hl : xs.length = ds.length) (h : ∀ i (h1 : i < ds.length) (h2 : i < xs.length), RdD P e ds[i] xs[i])
    (hf : ∀ d x, RdD P e d x → ∃ y, x = f y ∧ g y d) : ∃ ys : List α, xs = ys.map f ∧ ys.length = ds.length ∧ ∀ i (h1 : i < ds.length) (h2 : i < ys.length), g ys[i] ds[i] := by
  induction xs generalizing ds with
  | nil =>
    obtain rfl : ds = [] := List.eq_nil_of_length_eq_zero (by simpa using hl.symm)
    exact ⟨[], rfl, rfl, fun i h => absurd h (by simp)⟩
  | cons x xs ih =>
    cases ds with
    | nil => simp at hl
    | cons d ds =>
      obtain ⟨y, hy, hg⟩ := hf d x (h 0 (by simp) (by simp))
      obtain ⟨ys, h1, h2, h3⟩ := ih (ds := ds) (by simpa using hl) (fun i k1 k2 => h (i + 1) (Nat.succ_lt_succ k1) (Nat.succ_lt_succ k2))
      refine ⟨y :: ys, by rw [hy, h1]; rfl, by simp [h2], fun i k1 k2 => ?_⟩
      cases i with
      | zero => exact hg
      | succ i => exact h3 i (Nat.lt_of_succ_lt_succ k1) (Nat.lt_of_succ_lt_succ k2)
end
end Go.Ab
end
section
set_option linter.unusedVariables false
set_option linter.unusedSimpArgs false
namespace Go.Ab
open Go Go.WideShapes
mutual
def avB : AV → Nat
  | .str s => s.length
  | .sl _ _ _ xs => avS xs
  | .agg cs => avC cs
  | _ => 0
def avS : List AV → Nat
  | [] => 0
  | x :: r => avB x + 1 + avS r
def avC : List AV → Nat
  | [] => 0
  | x :: r => avB x + avC r
end
theorem avC_append (a b : List AV) : avC (a ++ b) = avC a + avC b := by
  induction a with
  | nil => simp [avC]
  | cons x a ih => simp only [List.cons_append, avC, ih]; omega
theorem avC_cells (x : AV) : avC x.cells ≤ avB x := by
  cases x <;> simp [AV.cells, avC, avB]
theorem avC_flat (xs : List AV) : avC (xs.flatMap AV.cells) ≤ avC xs := by
  induction xs with
  | nil => simp
  | cons x xs ih =>
    have := avC_cells x
    simp only [List.flatMap_cons, avC_append, avC]; omega
theorem avC_le_avS (xs : List AV) : avC xs ≤ avS xs := by
  induction xs with
  | nil => simp [avC, avS]
  | cons x xs ih => simp only [avC, avS]; omega
theorem bulk_all {P : Program} {H : Type} {B : DataW H → Nat} {BA : List (DataW H) → Nat} (hn : BA [] = 0) (hc : ∀ d r, BA (d :: r) = B d + BA r) : ∀ {ds : List (DataW H)} {xs : List AV}, xs.length = ds.length →
    (∀ i (h1 : i < ds.length) (h2 : i < xs.length), avB xs[i] + 1 ≤ B ds[i]) → avS xs ≤ BA ds
  | [], xs, hl, h => by
    obtain rfl : xs = [] := List.eq_nil_of_length_eq_zero (by simpa using hl)
    simp [avS]
  | d :: ds, xs, hl, h => by
    cases xs with
    | nil => simp at hl
    | cons x xs =>
      have h0 := h 0 (by simp) (by simp)
      have := bulk_all (P := P) (B := B) hn hc (ds := ds) (xs := xs) (by simpa using hl) (fun i h1 h2 => h (i + 1) (Nat.succ_lt_succ h1) (Nat.succ_lt_succ h2))
      simp only [avS, hc]
      simp only [List.getElem_cons_zero] at h0
      omega
theorem RdD.bulk {P : Program} {H : Type} {B : DataW H → Nat} {BA : List (DataW H) → Nat} (hn : BA [] = 0) (hc : ∀ d r, BA (d :: r) = B d + BA r) (h1 : ∀ d, 1 ≤ B d) (hs : ∀ s, B (.lit (.string s)) = s.length + 1)
    (hsl : ∀ a b, B (.slice a b) = BA a + BA b + 1) (hag : ∀ a, B (.agg a) = BA a + 1) {t : TypeId} {d : DataW H} {a : AV} (h : RdD P t d a) : avB a + 1 ≤ B d := by
  induction h with
  | bool => simpa [avB] using h1 _
  | int => simpa [avB] using h1 _
  | str => simp [avB, hs]
  | nils => simpa [avB, avS] using h1 _
  | sl ht hl hm h ih =>
    have := bulk_all (P := P) (B := B) hn hc hl ih
    rw [hsl]; simp only [avB]; omega
  | st ht hd hx h ih =>
    have := bulk_all (P := P) (B := B) hn hc (by omega) (fun i a b => ih i a b (by omega))
    rw [hag]; simp only [avB]
    rename_i t fs ds xs
    have k1 := avC_flat xs
    have k2 := avC_le_avS xs
    omega
end Go.Ab
end
section
set_option linter.unusedVariables false
set_option linter.unusedSimpArgs false
set_option maxRecDepth 20000
namespace Go.Proofs.Ytopdpbcfgjijaaa
open Go Go.Ab
theorem open_E {H : Type} {d : DataW H} {a : AV} (h : RdD Try.prog 23 d a) : ∃ t : TM, a = termA t := by
  obtain ⟨ds, xs, rfl, rfl, hall⟩ := h.inv_st Try.underlying23
  obtain ⟨d0, ds, x0, xs, rfl, rfl, h0, hall⟩ := hall.cons
  obtain ⟨d1, ds, x1, xs, rfl, rfl, h1, hall⟩ := hall.cons
  obtain ⟨d2, ds, x2, xs, rfl, rfl, h2, hall⟩ := hall.cons
  obtain ⟨rfl, rfl⟩ := hall.nil
  obtain ⟨s0, rfl, rfl, _⟩ := h0.inv_int Try.underlying3
  obtain ⟨s1, rfl, rfl, _⟩ := h1.inv_int Try.underlying3
  obtain ⟨s2, rfl, rfl, _⟩ := h2.inv_int Try.underlying3
  exact ⟨⟨s0, s1, s2⟩, rfl⟩
end Go.Proofs.Ytopdpbcfgjijaaa
end
