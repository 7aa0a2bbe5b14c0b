/-
  Texts of our own, in one file.
-/
import Derived.Test.YtopdpbcfgjijaaaGrpC
import Derived.WalkKit
import Derived.Lib.Walk
import Derived.StillTailTactics
import Derived.Sort.Grow
import Derived.Shelf.SlSortCmp.InsertionK
import Derived.Shelf.SlSortCmp.WholeK
section
set_option linter.unusedVariables false
set_option linter.unusedSimpArgs false
set_option maxRecDepth 20000
set_option maxHeartbeats 4000000
namespace Go.Proofs.Ytopdpbcfgjijaaa
open Go Go.Ab
def errT (n now : Int) (ws : List Int) : Int := if ws.any wrkB = true then 3 else if witB n 0 1000000000 = false then 3 else if n < now then 4 else 0
theorem alloc_last {σ : Heap} (h : Alive σ) (b : Box) : allocH σ b = (σ.length, 0, σ ++ [(0, some b)]) := h.alloc b
theorem texts_snoc (l : List Nm) (x : Nm) : texts l ++ [.str x] = texts (l ++ [x]) := by simp [texts]
def TilOk (es : List JE) : Prop := ∀ e ∈ es, (e.till.map Prod.fst).Nodup
def WkOk (W : AV) (ws : List Int) : Prop := (W = .nils ∧ ws = []) ∨ ∃ st fl, W = .sl st fl 1 (intsA ws)
theorem WkOk.frz {W : AV} {ws : List Int} (h : WkOk W ws) (s : Heap) : Frz false s W (.sl false false 1 (intsA ws)) := by
  rcases h with ⟨rfl, rfl⟩ | ⟨st, fl, rfl⟩
  · exact .nils
  · exact .lend rfl (fun h => by cases h) (intsA_any ws)
theorem time_bad (σ : Heap) (q mid : Nat) (t : TM) (now n : Int) (es : List JE) (W : AV) (ws : List Int) (h : LAt σ q mid none t now es) (hWc : WkOk W ws) (hwl : ws.length ≤ 1000) (he : errT n now ws ≠ 0) :
    CallOk cx 29 [.ptr q 0 0, .int .i64 n, W] σ (fun o s => o = .ret (.tup [.nils, .int .i64 (errT n now ws)]) ∧ s = σ) :=
  callOk_intro (fun a w => Try.call29 a w) Try.func29 rfl Try.ntmps29 rfl fun B => by
    have hB := bad_ok (st := false) (fl := false) ws (by omega)
    have hWi := within_ok n 0 1000000000
    have hW0 := hWc.frz
    have hfr : ∀ s : Heap, Frzs s [W, .func (.func 44) [] []] [.sl false false 1 (intsA ws), .func (.func 44) [] []] := fun s => .cons (hW0 s) (.cons (.refl (.func (fun x h => by cases h) (fun x h => by cases h))) (.nil _))
    have hfi : ∀ s : Heap, Frzs s [.int .i64 n, .int .i64 0, .int .i64 1000000000] [.int .i64 n, .int .i64 0, .int .i64 1000000000] := fun s => .cons (.refl .int) (.cons (.refl .int) (.cons (.refl .int) (.nil _)))
    rcases hWc with ⟨rfl, hws0⟩ | ⟨st0, fl0, rfl⟩
    all_goals
      cases h1 : ws.any wrkB with
      | true =>
        rw [h1] at hB
        refine pao [.v (.bool true), .b true, .b true] rfl ?_ ?_
        · (repeat' with_reducible apply AllP_cons) <;> try exact aC
          · exact ⟨_, hB, hfr _⟩
        refine S_ret ⟨_, _, rfl, trivial, ?_, rfl⟩
        unfold errT; rw [if_pos h1]; rfl
      | false =>
        rw [h1] at hB
        cases h2 : witB n 0 1000000000 with
        | false =>
          rw [h2] at hWi
          refine pao [.v (.bool false), .b false, .v (.bool false), .b true] rfl ?_ ?_
          · (repeat' with_reducible apply AllP_cons) <;> try exact aC
            · exact ⟨_, hB, hfr _⟩
            · exact ⟨_, hWi, hfi _⟩
          refine S_ret ⟨_, _, rfl, trivial, ?_, rfl⟩
          unfold errT; rw [if_neg (by rw [h1]; simp), if_pos h2]; rfl
        | true =>
          rw [h2] at hWi
          by_cases h3 : n < now
          · have c3 : decide (n < now) = true := decide_eq_true h3
            refine pao [.v (.bool false), .b false, .v (.bool true), .b false, .v (.int .i64 now), .b true] rfl ?_ ?_
            · (repeat' with_reducible apply AllP_cons) <;> try exact aC
              · exact ⟨_, hB, hfr _⟩
              · exact ⟨_, hWi, hfi _⟩
              · exact OpSpec.loadP rfl rfl rfl rfl h.qb rfl
            refine S_ret ⟨_, _, rfl, trivial, ?_, rfl⟩
            unfold errT; rw [if_neg (by rw [h1]; simp), if_neg (by rw [h2]; simp), if_pos h3]; rfl
          · exact absurd (by unfold errT; rw [if_neg (by rw [h1]; simp), if_neg (by rw [h2]; simp), if_neg h3]) he
theorem time_ok (σ : Heap) (q mid : Nat) (t : TM) (now n : Int) (es : List JE) (W : AV) (ws : List Int) (h : LAt σ q mid none t now es) (hT : TilOk es) (hWc : WkOk W ws) (hwl : ws.length ≤ 1000) (hel : es.length ≤ 1000) (he : errT n now ws = 0) :
    CallOk cx 29 [.ptr q 0 0, .int .i64 n, W] σ (fun o s => ∃ w wv, o = .ret (.tup [.ms w wv 0 (goneL n es).length 1 false, .int .i64 0]) ∧ σ.length ≤ w ∧ s[w]? = some (wv, some (.cells (texts (goneL n es)) ⟨false, none⟩)) ∧ LAt s q mid none t n (es.map (tickE t.tries n)) ∧ QKeep σ s (OwnL q mid es) (OwnL q mid es)) :=
  callOk_intro (fun a w => Try.call29 a w) Try.func29 rfl Try.ntmps29 rfl fun B => by
    have hB := bad_ok (st := false) (fl := false) ws (by omega)
    have hWi := within_ok n 0 1000000000
    have hW0 := hWc.frz
    have hfr : ∀ s : Heap, Frzs s [W, .func (.func 44) [] []] [.sl false false 1 (intsA ws), .func (.func 44) [] []] := fun s => .cons (hW0 s) (.cons (.refl (.func (fun x h => by cases h) (fun x h => by cases h))) (.nil _))
    have hfi : ∀ s : Heap, Frzs s [.int .i64 n, .int .i64 0, .int .i64 1000000000] [.int .i64 n, .int .i64 0, .int .i64 1000000000] := fun s => .cons (.refl .int) (.cons (.refl .int) (.cons (.refl .int) (.nil _)))
    have h1 : ws.any wrkB = false := by
      cases h1 : ws.any wrkB with
      | true => unfold errT at he; rw [if_pos h1] at he; cases he
      | false => rfl
    have h2 : witB n 0 1000000000 = true := by
      cases h2 : witB n 0 1000000000 with
      | false => unfold errT at he; rw [if_neg (by rw [h1]; simp), if_pos h2] at he; cases he
      | true => rfl
    have h3 : ¬ n < now := fun h3 => by unfold errT at he; rw [if_neg (by rw [h1]; simp), if_neg (by rw [h2]; simp), if_pos h3] at he; cases he
    have c3 : decide (n < now) = false := decide_eq_false h3
    rw [h1] at hB
    rw [h2] at hWi
    obtain ⟨B1, hB1⟩ : ∃ B1 : Nat × Option Box, B1 = (0, some (bookB t n mid)) := ⟨_, rfl⟩
    have hL1 : LAt (σ.set q B1) q mid none t n es := by rw [hB1]; exact h.now n
    have hK1 : QKeep σ (σ.set q B1) (OwnL q mid es) (OwnL q mid es) := QKeep.refl.setO own_q _
    have hlen1 : (σ.set q B1).length = σ.length := List.length_set ..
    obtain ⟨tk, htk⟩ : ∃ tk : JE → JE, tk = tickE t.tries n := ⟨_, rfl⟩
    have hids : ∀ e, (tk e).jid = e.jid ∧ (tk e).tid = e.tid ∧ (tk e).name = e.name := fun e => by
      rw [htk]; have := tickE_jid t.tries n e; exact ⟨this.1, this.2.1, this.2.2.1⟩
    rcases hWc with ⟨rfl, hws0⟩ | ⟨st0, fl0, rfl⟩
    all_goals
      refine pao [.v (.bool false), .b false, .v (.bool true), .b false, .v (.int .i64 now), .b false, .f (.tup []) (fun s => s.set q B1), .v (.map mid 0), .s] rfl ?_ ?_
      · (repeat' with_reducible apply AllP_cons) <;> try exact aC
        · exact ⟨_, hB, hfr _⟩
        · exact ⟨_, hWi, hfi _⟩
        · exact OpSpec.loadP rfl rfl rfl rfl h.qb rfl
        · exact OpSpec.storeP (id := q) (gT := some 59) (cs := [.int .i64 t.last, .int .i64 t.tries, .int .i64 t.twins, .int .i64 now, .map mid 0]) rfl rfl rfl rfl rfl rfl h.qb (lble rfl) (by rw [hB1]; rfl)
        · exact OpSpec.loadP rfl rfl rfl rfl hL1.qb rfl
      refine S_heap (σ.set q B1) rfl ?_
      refine S_ghostF (t := 9) (gid := σ.length) (gver := 0) (σ' := σ.set q B1 ++ [(0, some (.cells [] ⟨false, none⟩))]) 1 ⟨false, none⟩ rfl (by rw [alloc_last hL1.al, hlen1]) ⟨.skip, _, .inr ⟨_, _, _, rfl⟩⟩ ?_
      have hL2 : LAt (σ.set q B1 ++ [(0, some (.cells [] ⟨false, none⟩))]) q mid none t n es := hL1.app _ _
      have hK2 : QKeep σ (σ.set q B1 ++ [(0, some (.cells [] ⟨false, none⟩))]) (OwnL q mid es) (OwnL q mid es) := hK1.trans QKeep.app
      have hg2 : (σ.set q B1 ++ [((0, some (.cells [] ⟨false, none⟩)) : Nat × Option Box)])[σ.length]? = some (0, some (.cells [] ⟨false, none⟩)) := by rw [← hlen1]; exact app_last
      have hlen2 : (σ.set q B1 ++ [((0, some (.cells [] ⟨false, none⟩)) : Nat × Option Box)]).length = σ.length + 1 := by simp
      generalize (σ.set q B1 ++ [((0, some (.cells [] ⟨false, none⟩)) : Nat × Option Box)]) = σ2 at *
      refine S_stamp (id := mid) hL2.mb (fun bs c0 hbl hbn hbc => ?_) ⟨.skip, _, .inr ⟨_, _, _, rfl⟩⟩
      have hbl : bs.length = es.length := by rw [hbl]; simp [entK]
      have hL3 := hL2.stamp (some (bs, c0))
      have hno : ∀ id, σ.length ≤ id → ¬ OwnL q mid es id := fun id hid ho => by have := h.lt _ ho; omega
      have hgm : σ.length ≠ mid := fun e => hno _ (Nat.le_refl _) (e ▸ own_m)
      have hK3 : QKeep σ (σ2.set mid (0, some (.map (entK es) (some (bs, c0))))) (OwnL q mid es) (OwnL q mid es) := hK2.setO own_m _
      have hg3 : (σ2.set mid (0, some (.map (entK es) (some (bs, c0)))))[σ.length]? = some (0, some (.cells [] ⟨false, none⟩)) := by rw [set_ne hgm]; exact hg2
      have hlen3 : (σ2.set mid (0, some (.map (entK es) (some (bs, c0))))).length = σ.length + 1 := by rw [List.length_set]; exact hlen2
      generalize σ2.set mid (0, some (.map (entK es) (some (bs, c0)))) = σ3 at *
      refine pao [.f (.ptr σ3.length 0 0) (fun s => s ++ [(0, some (.miter mid 0 c0 [] c0))])] rfl ?_ ?_
      · (repeat' with_reducible apply AllP_cons) <;> try exact aC
        · exact OpSpec.rangeG hL3.al rfl rfl rfl hL3.mb rfl
      rw [hlen3]
      have hL4 : LAt (σ3 ++ [(0, some (.miter mid 0 c0 [] c0))]) q mid (some (bs, c0)) t n es := hL3.app _ _
      have hK4 : QKeep σ (σ3 ++ [(0, some (.miter mid 0 c0 [] c0))]) (OwnL q mid es) (OwnL q mid es) := hK3.trans QKeep.app
      have hg4 : (σ3 ++ [((0, some (.miter mid 0 c0 [] c0)) : Nat × Option Box)])[σ.length]? = some (0, some (.cells [] ⟨false, none⟩)) := app_get hg3
      have hm4 : (σ3 ++ [((0, some (.miter mid 0 c0 [] c0)) : Nat × Option Box)])[σ.length + 1]? = some (0, some (.miter mid 0 c0 [] c0)) := by rw [← hlen3]; exact app_last
      obtain ⟨look, hlook⟩ : ∃ look : Nat → Option Nm, look = fun b => ((bs.zip es).lookup b).bind (goneN n) := ⟨_, rfl⟩
      refine S_heap (σ3 ++ [((0, some (.miter mid 0 c0 [] c0)) : Nat × Option Box)]) rfl ?_
      generalize σ3 ++ [((0, some (.miter mid 0 c0 [] c0)) : Nat × Option Box)] = σ4 at *
      have hnat : ∀ sn : List Nat, sn.Nodup → (∀ x ∈ sn, x ∈ bs) → sn.length ≤ bs.length := fun sn h1 h2 => List.Nodup.length_le_of_subset h1 h2
      have hcl : ∀ sn, (curJ tk sn bs es).length = es.length := fun sn => curJ_len tk sn bs es hbl
      have hco : ∀ sn, OwnL q mid (curJ tk sn bs es) = OwnL q mid es := fun sn => by funext id; unfold OwnL idsL; rw [(curJ_ids tk hids sn bs es hbl).1]
      refine S_while (α := Heap × List Nat × List Nm) (fun s => [(0, .ptr q 0 0), (1, .int .i64 n), (9, .ms σ.length s.2.2.length 0 s.2.2.length 1 false), (36, .ptr (σ.length + 1) 0 0)]) (fun s => s.1)
        (fun s => LAt s.1 q mid (some (bs, c0)) t n (curJ tk s.2.1 bs es) ∧ QKeep σ s.1 (OwnL q mid es) (OwnL q mid es) ∧ s.1[σ.length]? = some (s.2.2.length, some (.cells (texts s.2.2) ⟨false, none⟩)) ∧ s.1[σ.length + 1]? = some (0, some (.miter mid 0 c0 s.2.1 c0)) ∧ s.2.1.Nodup ∧ (∀ x ∈ s.2.1, x ∈ bs) ∧ s.2.2 = s.2.1.filterMap look)
        (fun s => bs.length - s.2.1.length) (σ4, [], []) ⟨by show LAt σ4 q mid _ t n (curJ tk [] bs es); rw [curJ_nil tk bs es hbl]; exact hL4, hK4, hg4, hm4, .nil, (fun x h => by cases h), rfl⟩ (.cons rfl (.cons rfl (.cons rfl (.cons rfl (.nil _))))) rfl ?_
      rintro ⟨u, sn, out⟩ ⟨hL, hK, hg, hm, hs1, hs2, hs3⟩
      simp only at hL hK hg hm hs1 hs2 hs3
      have hne : ∀ id, σ.length ≤ id → ¬ OwnL q mid (curJ tk sn bs es) id := fun id hid => by rw [hco]; exact hno id hid
      have hol : out.length ≤ sn.length := by rw [hs3]; exact List.length_filterMap_le ..
      refine pao [] rfl ?_ ?_
      · (repeat' with_reducible apply AllP_cons) <;> try exact aC
      refine S_mnext (id := σ.length + 1) (ver := 0) (mid := mid) (mver := 0) (since := c0) (last := c0) (c := c0) (seen := sn) (bs := bs) (kvs := entK (curJ tk sn bs es)) rfl rfl hm hL.mb (fun x hx => hbc x hx) (Nat.le_refl _) rfl rfl ?_ ?_
      · intro i b hi2 hb hns
        have hi : i < es.length := by simpa [entK, hcl] using hi2
        have hib : i < bs.length := by omega
        have hbe : bs[i] = b := by rw [List.getElem?_eq_getElem hib] at hb; exact Option.some.inj hb
        have hbm : b ∈ bs := hbe ▸ List.getElem_mem hib
        have hic : i < (curJ tk sn bs es).length := by rw [hcl]; exact hi
        have hce : (curJ tk sn bs es)[i] = es[i] := by rw [curJ_at tk sn bs es hbl i hi hic hib, hbe, if_neg hns]
        have hn2 : (sn ++ [b]).Nodup := List.nodup_append.2 ⟨hs1, by simp, fun x hx y hy => by simp at hy; subst hy; exact fun e => hns (e ▸ hx)⟩
        have hm2 : ∀ x ∈ sn ++ [b], x ∈ bs := fun x hx => by
          rcases List.mem_append.1 hx with hx | hx
          · exact hs2 x hx
          · simp at hx; subst hx; exact hbm
        have hlen2' := hnat _ hn2 hm2
        have hsl : (sn ++ [b]).length = sn.length + 1 := by simp
        rw [hsl] at hlen2'
        have hlk : look b = goneN n es[i] := by
          rw [hlook, ← hbe]
          show (List.lookup bs[i] (bs.zip es)).bind (goneN n) = _
          rw [lk bs es hbl hbn i hib hi]; rfl
        have hset : (curJ tk sn bs es).set i (tk es[i]) = curJ tk (sn ++ [b]) bs es := by
          have := curJ_set tk sn bs es hbl hbn i hi hib (by rw [hbe]; exact hns)
          rw [hbe] at this; exact this
        have hmemE : es[i] ∈ curJ tk sn bs es := by rw [← hce]; exact List.getElem_mem hic
        have hTi := hT _ (List.getElem_mem hi)
        have hkv : (entK (curJ tk sn bs es))[i]? = some (.str es[i].name, .ptr es[i].jid 0 0) := by
          unfold entK; rw [List.getElem?_map, List.getElem?_eq_getElem hic, hce]; rfl
        have hL6 : LAt (u.set (σ.length + 1) (0, some (.miter mid 0 c0 (sn ++ [b]) c0))) q mid (some (bs, c0)) t n (curJ tk sn bs es) := hL.mono (Alive.set hL.al _ _ _) fun id ho => set_ne fun e => by subst e; exact hne _ (Nat.le_succ _) ho
        have hK6 : QKeep σ (u.set (σ.length + 1) (0, some (.miter mid 0 c0 (sn ++ [b]) c0))) (OwnL q mid es) (OwnL q mid es) := hK.set (Nat.le_succ σ.length) _
        have hg6 : (u.set (σ.length + 1) (0, some (.miter mid 0 c0 (sn ++ [b]) c0)))[σ.length]? = some (out.length, some (.cells (texts out) ⟨false, none⟩)) := by rw [set_ne (by omega)]; exact hg
        have hm6 : (u.set (σ.length + 1) (0, some (.miter mid 0 c0 (sn ++ [b]) c0)))[σ.length + 1]? = some (0, some (.miter mid 0 c0 (sn ++ [b]) c0)) := set_eq hm
        generalize es[i] = e at *
        refine pao [.b true, .s] rfl ?_ ?_
        · (repeat' with_reducible apply AllP_cons) <;> try exact aC
        refine S_heap (u.set (σ.length + 1) (0, some (.miter mid 0 c0 (sn ++ [b]) c0))) rfl ?_
        generalize u.set (σ.length + 1) (0, some (.miter mid 0 c0 (sn ++ [b]) c0)) = u6 at *
        have ap := hL6.ap hmemE
        have hje := hL6.jb e hmemE
        have hte := hL6.tb e hmemE
        refine pao [.v (.tup [.str e.name, .ptr e.jid 0 0]), .v (.map e.tid 0), .s] rfl ?_ ?_
        · (repeat' with_reducible apply AllP_cons) <;> try exact aC
          · exact OpSpec.entryG rfl rfl hm6 hL6.mb hb hkv
          · exact OpSpec.loadP rfl rfl rfl rfl hje rfl
        refine S_stamp (id := e.tid) hte (fun bs2 c2 hl2 hn2' hc2 => ?_) ⟨.skip, _, .inr ⟨_, _, _, rfl⟩⟩
        have hl2 : bs2.length = e.till.length := by rw [hl2]; simp [tilK]
        have hal7 : Alive (u6.set e.tid (0, some (.map (tilK e.till) (some (bs2, c2))))) := Alive.set hL6.al _ _ _
        have hte7 : (u6.set e.tid (0, some (.map (tilK e.till) (some (bs2, c2)))))[e.tid]? = some (0, some (.map (tilK e.till) (some (bs2, c2)))) := set_eq hte
        have hot7 : ∀ id, id ≠ e.tid → (u6.set e.tid (0, some (.map (tilK e.till) (some (bs2, c2)))))[id]? = u6[id]? := fun id hid => set_ne hid
        have hlen7 : (u6.set e.tid (0, some (.map (tilK e.till) (some (bs2, c2))))).length = u6.length := List.length_set ..
        generalize u6.set e.tid (0, some (.map (tilK e.till) (some (bs2, c2)))) = u7 at *
        refine pao [.f (.ptr u7.length 0 0) (fun s => s ++ [(0, some (.miter e.tid 0 c2 [] c2))])] rfl ?_ ?_
        · (repeat' with_reducible apply AllP_cons) <;> try exact aC
          · exact OpSpec.rangeG hal7 rfl rfl rfl hte7 rfl
        have htj : e.tid ≠ u7.length := by have := lt_of_get hte7; omega
        have hjj : e.jid ≠ u7.length := by have := lt_of_get hje; omega
        have hal8 : Alive (u7 ++ [(0, some (.miter e.tid 0 c2 [] c2))]) := Alive.app hal7 _ _
        have hte8 : (u7 ++ [((0, some (.miter e.tid 0 c2 [] c2)) : Nat × Option Box)])[e.tid]? = some (0, some (.map (tilK e.till) (some (bs2, c2)))) := app_get hte7
        have hmj8 : (u7 ++ [((0, some (.miter e.tid 0 c2 [] c2)) : Nat × Option Box)])[u7.length]? = some (0, some (.miter e.tid 0 c2 [] c2)) := app_last
        have hot8 : ∀ id, id < u7.length → id ≠ e.tid → (u7 ++ [((0, some (.miter e.tid 0 c2 [] c2)) : Nat × Option Box)])[id]? = u6[id]? := fun id h1 h2 => by rw [List.getElem?_append_left h1, hot7 id h2]
        have hlen8 : (u7 ++ [((0, some (.miter e.tid 0 c2 [] c2)) : Nat × Option Box)]).length = u7.length + 1 := by simp
        refine S_heap (u7 ++ [((0, some (.miter e.tid 0 c2 [] c2)) : Nat × Option Box)]) rfl ?_
        generalize hu8 : u7 ++ [((0, some (.miter e.tid 0 c2 [] c2)) : Nat × Option Box)] = u8 at *
        generalize hmj : u7.length = mj at *
        obtain ⟨st1, st2, st3⟩ := TrI.start (n := n) hl2 hn2' hc2 hTi
        refine S_while (α := List Nat × TR) (fun s => [(0, .ptr q 0 0), (1, .int .i64 n), (9, .ms σ.length out.length 0 out.length 1 false), (36, .ptr (σ.length + 1) 0 0), (10, .str e.name), (11, .ptr e.jid 0 0), (46, .ptr mj 0 0)]) (fun s => (u8.set e.tid (0, some (.map (tilK (trK s.2)) (some (trB s.2, c2))))).set mj (0, some (.miter e.tid 0 c2 s.1 c2)))
          (fun s => TrI n e.till c2 s.1 s.2) (fun s => trM s.1 s.2) ([], bs2.zip e.till) st1 (.cons rfl (.cons rfl (.cons rfl (.cons rfl (.cons rfl (.cons rfl (.cons rfl (.nil _)))))))) (by show u8 = (u8.set e.tid (0, some (.map (tilK (trK (bs2.zip e.till))) (some (trB (bs2.zip e.till), c2))))).set mj _; rw [st2, st3, set_self hte8, set_self hmj8]) ?_
        rintro ⟨sn2, tr⟩ hI
        simp only at hI
        obtain ⟨A, hA⟩ : ∃ A : Nat × Option Box, A = (0, some (.map (tilK (trK tr)) (some (trB tr, c2)))) := ⟨_, rfl⟩
        show S cx _ B _ _ _ ((u8.set e.tid (0, some (.map (tilK (trK tr)) (some (trB tr, c2))))).set mj (0, some (.miter e.tid 0 c2 sn2 c2)))
        rw [← hA]
        have hm9 : ((u8.set e.tid A).set mj (0, some (.miter e.tid 0 c2 sn2 c2)))[mj]? = some (0, some (.miter e.tid 0 c2 sn2 c2)) := set_eq (y := (0, some (.miter e.tid 0 c2 [] c2))) (by rw [set_ne htj.symm]; exact hmj8)
        have ht9 : ((u8.set e.tid A).set mj (0, some (.miter e.tid 0 c2 sn2 c2)))[e.tid]? = some (0, some (.map (tilK (trK tr)) (some (trB tr, c2)))) := by rw [set_ne htj, set_eq hte8, hA]
        refine pao [] rfl ?_ ?_
        · (repeat' with_reducible apply AllP_cons) <;> try exact aC
        refine S_mnext (id := mj) (ver := 0) (mid := e.tid) (mver := 0) (since := c2) (last := c2) (c := c2) (seen := sn2) (bs := trB tr) (kvs := tilK (trK tr)) rfl rfl hm9 ht9 (fun x hx => hI.lt x hx) (Nat.le_refl _) rfl rfl ?_ ?_
        · intro k b2 hk hb2 hns2
          have hk2 : k < tr.length := by simpa [tilK, trK] using hk
          have hbk : tr[k].1 = b2 := by
            have : (trB tr)[k]? = some tr[k].1 := by unfold trB; rw [List.getElem?_map, List.getElem?_eq_getElem hk2]; rfl
            rw [hb2] at this; exact (Option.some.inj this).symm
          subst hbk
          have hkv2 : (tilK (trK tr))[k]? = some (.int .i64 tr[k].2.1, .int .i64 tr[k].2.2) := by
            unfold tilK trK; rw [List.getElem?_map, List.getElem?_map, List.getElem?_eq_getElem hk2]; rfl
          have hhit : hitI (trK tr) tr[k].2.1 = some (k, .int .i64 tr[k].2.2) := by
            have hk3 : k < (trK tr).length := by simpa [trK] using hk2
            have := hitI_at hI.nk hk3
            have e1 : (trK tr)[k] = tr[k].2 := by simp [trK]
            rw [e1] at this; exact this
          have hmA : (((u8.set e.tid A).set mj (0, some (.miter e.tid 0 c2 sn2 c2))).set mj (0, some (.miter e.tid 0 c2 (sn2 ++ [tr[k].1]) c2))) = (u8.set e.tid A).set mj (0, some (.miter e.tid 0 c2 (sn2 ++ [tr[k].1]) c2)) := List.set_set ..
          rw [hmA]
          have hm10 : ((u8.set e.tid A).set mj (0, some (.miter e.tid 0 c2 (sn2 ++ [tr[k].1]) c2)))[mj]? = some (0, some (.miter e.tid 0 c2 (sn2 ++ [tr[k].1]) c2)) := set_eq (y := (0, some (.miter e.tid 0 c2 [] c2))) (by rw [set_ne htj.symm]; exact hmj8)
          have ht10 : ((u8.set e.tid A).set mj (0, some (.miter e.tid 0 c2 (sn2 ++ [tr[k].1]) c2)))[e.tid]? = some (0, some (.map (tilK (trK tr)) (some (trB tr, c2)))) := by rw [set_ne htj, set_eq hte8, hA]
          have hj10 : ((u8.set e.tid A).set mj (0, some (.miter e.tid 0 c2 (sn2 ++ [tr[k].1]) c2)))[e.jid]? = some (0, some (jobB e)) := by rw [set_ne hjj, set_ne ap.jt, hot8 _ (by have := lt_of_get hje; omega) ap.jt]; exact hje
          by_cases hlt : tr[k].2.2 < n
          · have cl : decide (tr[k].2.2 < n) = true := decide_eq_true hlt
            obtain ⟨A2, hA2⟩ : ∃ A2 : Nat × Option Box, A2 = (0, some (.map (tilK (trK (tr.eraseIdx k))) (some (trB (tr.eraseIdx k), c2)))) := ⟨_, rfl⟩
            refine pao [.b true, .v (.tup [.int .i64 tr[k].2.1, .int .i64 tr[k].2.2]), .b true, .v (.map e.tid 0), .f (.tup []) (fun s => s.set e.tid A2)] rfl ?_ ?_
            · (repeat' with_reducible apply AllP_cons) <;> try exact aC
              · exact OpSpec.entryG rfl rfl hm10 ht10 hb2 hkv2
              · exact OpSpec.loadP rfl rfl rfl rfl hj10 rfl
              · refine OpSpec.delG (a := .int .i64 tr[k].2.1) (some (k, .int .i64 tr[k].2.2)) rfl rfl rfl rfl rfl ht10 (by rw [findI0, hhit]) ?_
                rw [hA2]
                show List.set _ _ (0, some (Box.map ((tilK (trK tr)).eraseIdx k) (some ((trB tr).eraseIdx k, c2)))) = _
                have e1 : (tilK (trK tr)).eraseIdx k = tilK (trK (tr.eraseIdx k)) := by unfold tilK trK; rw [eraseIdx_map', eraseIdx_map']
                have e2 : (trB tr).eraseIdx k = trB (tr.eraseIdx k) := by unfold trB; rw [eraseIdx_map']
                rw [e1, e2]
            refine S_round (sn2 ++ [tr[k].1], tr.eraseIdx k) (trM_del hk2 hns2) (hI.del hk2 hlt) (.cons rfl (.cons rfl (.cons rfl (.cons rfl (.cons rfl (.cons rfl (.cons rfl (.nil _)))))))) ?_
            show ((u8.set e.tid A).set mj _).set e.tid A2 = (u8.set e.tid _).set mj _
            rw [List.set_comm _ _ htj.symm, List.set_set, hA2]
          · have cl : decide (tr[k].2.2 < n) = false := decide_eq_false hlt
            refine pao [.b true, .v (.tup [.int .i64 tr[k].2.1, .int .i64 tr[k].2.2]), .b false] rfl ?_ ?_
            · (repeat' with_reducible apply AllP_cons) <;> try exact aC
              · exact OpSpec.entryG rfl rfl hm10 ht10 hb2 hkv2
            refine S_round (sn2 ++ [tr[k].1], tr) (trM_keep hk2 hns2) (hI.keep hk2 hlt) (.cons rfl (.cons rfl (.cons rfl (.cons rfl (.cons rfl (.cons rfl (.cons rfl (.nil _)))))))) ?_
            show (u8.set e.tid A).set mj _ = (u8.set e.tid _).set mj _
            rw [hA]
        · intro hall2
          have hdone := hI.done hall2
          refine pao [.b false, .s] rfl ?_ ?_
          · (repeat' with_reducible apply AllP_cons) <;> try exact aC
          refine S_unstamp (id := e.tid) ht9 ?_ ⟨.skip, _, .inr ⟨_, _, _, rfl⟩⟩
          rw [hdone]
          obtain ⟨W3, hW3⟩ : ∃ W3 : Heap, W3 = (((u8.set e.tid A).set mj (0, some (.miter e.tid 0 c2 sn2 c2))).set e.tid (0, some (.map (tilK (liv n e.till)) none))) := ⟨_, rfl⟩
          refine S_heap W3 hW3.symm ?_
          have haW : Alive W3 := by rw [hW3]; exact Alive.set (Alive.set (by rw [hA]; exact Alive.set hal8 _ _ _) _ _ _) _ _ _
          have hoW : ∀ id, id < u6.length → id ≠ e.tid → W3[id]? = u6[id]? := fun id h1 h2 => by rw [hW3, set_ne h2, set_ne (show id ≠ mj by omega), set_ne h2]; exact hot8 id (by omega) h2
          have htW : W3[e.tid]? = some (0, some (.map (tilK (liv n e.till)) none)) := by rw [hW3]; exact set_eq ht9
          have hlW : W3.length = u6.length + 1 := by rw [hW3, List.length_set, List.length_set, List.length_set]; omega
          have hjW : W3[e.jid]? = some (0, some (jobB e)) := by rw [hoW _ (lt_of_get hje) ap.jt]; exact hje
          have hL7 : LAt W3 q mid (some (bs, c0)) t n ((curJ tk sn bs es).set i (tillE n e)) := hL6.job hic (tillE n e) (by rw [hce]; rfl) (by rw [hce]; rfl) (by rw [hce]; rfl) haW (by rw [hce]; exact hjW) (by rw [hce]; exact htW) (fun id ho h1 h2 => hoW id (hL6.lt id ho) (by rw [hce] at h2; exact h2))
          have hix : i < ((curJ tk sn bs es).set i (tillE n e)).length := by rw [List.length_set]; exact hic
          have hgs : ((curJ tk sn bs es).set i (tillE n e))[i] = tillE n e := List.getElem_set_self ..
          have hF := free_ok W3 q mid _ t n _ hL7 i hix
          rw [hgs] at hF
          obtain ⟨J5, hJ5⟩ : ∃ J5 : Nat × Option Box, J5 = (0, some (jobB (tk e))) := ⟨_, rfl⟩
          have hF : CallOk cx 33 [.ptr q 0 0, .ptr e.jid 0 0] W3 (fun o s => o = .ret (.bool (goneE n e)) ∧ s = W3.set e.jid J5) := by rw [hJ5, htk]; exact hF
          have hou : ∀ id, OwnL q mid (curJ tk sn bs es) id → OwnL q mid es id := fun id ho => by rw [hco] at ho; exact ho
          have hK7 : QKeep σ W3 (OwnL q mid es) (OwnL q mid es) := ⟨by have := hK6.len; omega, fun id hid hn => (hoW id (by have := hK6.len; omega) (fun x => hn (x ▸ hou _ (own_t hmemE)))).trans (hK6.same id hid hn), hK6.new⟩
          have hK8 : QKeep σ (W3.set e.jid J5) (OwnL q mid es) (OwnL q mid es) := hK7.setO (hou _ (own_j hmemE)) _
          have haL : Alive (W3.set e.jid J5) := Alive.set' hL7.al (by rw [hJ5]; exact ⟨_, rfl⟩) _
          have hL8 : LAt (W3.set e.jid J5) q mid (some (bs, c0)) t n (curJ tk (sn ++ [b]) bs es) := by
            have := hL7.job hix (tk e) (by rw [hgs]; exact (hids e).1) (by rw [hgs]; exact (hids e).2.1) (by rw [hgs]; exact (hids e).2.2) haL (by rw [hgs]; show (W3.set e.jid J5)[e.jid]? = _; rw [set_eq hjW, hJ5]) (by rw [hgs]; show (W3.set e.jid J5)[e.tid]? = _; rw [set_ne ap.jt.symm, htW, htk, (tickE_jid t.tries n e).2.2.2.1]) (fun id _ h1 _ => set_ne (by rw [hgs] at h1; exact h1))
            rw [List.set_set, hset] at this
            exact this
          have hgj : σ.length ≠ e.jid := fun x => hne _ (Nat.le_refl _) (x ▸ own_j hmemE)
          have hgt : σ.length ≠ e.tid := fun x => hne _ (Nat.le_refl _) (x ▸ own_t hmemE)
          have hgj1 : σ.length + 1 ≠ e.jid := fun x => hne (σ.length + 1) (Nat.le_succ _) (x ▸ own_j hmemE)
          have hgt1 : σ.length + 1 ≠ e.tid := fun x => hne (σ.length + 1) (Nat.le_succ _) (x ▸ own_t hmemE)
          have hg8 : (W3.set e.jid J5)[σ.length]? = some (out.length, some (.cells (texts out) ⟨false, none⟩)) := by rw [set_ne hgj, hoW _ (lt_of_get hg6) hgt]; exact hg6
          have hm8 : (W3.set e.jid J5)[σ.length + 1]? = some (0, some (.miter mid 0 c0 (sn ++ [b]) c0)) := by rw [set_ne hgj1, hoW _ (lt_of_get hm6) hgt1]; exact hm6
          cases hgo : goneE n e with
          | true =>
            rw [hgo] at hF
            obtain ⟨G, hG⟩ : ∃ G : Nat × Option Box, G = (out.length + 1, some (.cells (texts (out ++ [e.name])) ⟨false, none⟩)) := ⟨_, rfl⟩
            have hl1 : (out ++ [e.name]).length = out.length + 1 := by simp
            refine pao [.f (.bool true) (fun s => s.set e.jid J5), .b true, .f (.ms σ.length (out.length + 1) 0 (out.length + 1) 1 false) (fun s => s.set σ.length G)] rfl ?_ ?_
            · (repeat' with_reducible apply AllP_cons) <;> try exact aC
              · refine OpSpec.appendX (id := σ.length) (ver := out.length) (off := 0) (len := out.length) (y := .str e.name) (cs := texts out) rfl rfl rfl rfl rfl (fun z hz => by rw [List.mem_singleton.1 (show z ∈ [AV.str e.name] from hz)]; rfl) hg8 ?_ ?_ ?_ ?_
                · rw [texts_len]; omega
                · show (out.length + 1) * 16 ≤ _; omega
                · omega
                · rw [hG, ← texts_snoc]; rfl
            refine S_round ((W3.set e.jid J5).set σ.length G, sn ++ [b], out ++ [e.name]) (by show bs.length - (sn ++ [b]).length < bs.length - sn.length; rw [hsl]; omega) ⟨?_, ?_, ?_, ?_, hn2, hm2, ?_⟩ (.cons rfl (.cons rfl (.cons (by rw [hl1]; rfl) (.cons rfl (.nil _))))) rfl
            · exact hL8.mono (Alive.set' hL8.al (by rw [hG]; exact ⟨_, rfl⟩) _) fun id ho => set_ne fun x => by
                subst x
                rw [hco] at ho
                exact hno _ (Nat.le_refl _) ho
            · exact hK8.set (Nat.le_refl _) _
            · show ((W3.set e.jid J5).set σ.length G)[σ.length]? = _
              rw [set_eq hg8, hG, hl1]
            · show ((W3.set e.jid J5).set σ.length G)[σ.length + 1]? = _
              rw [set_ne (by omega)]; exact hm8
            · show out ++ [e.name] = (sn ++ [b]).filterMap look
              have hlb : look b = some e.name := by rw [hlk]; unfold goneN; rw [hgo]; rfl
              rw [List.filterMap_append, ← hs3, List.filterMap_cons, hlb]; rfl
          | false =>
            rw [hgo] at hF
            refine pao [.f (.bool false) (fun s => s.set e.jid J5), .b false] rfl ?_ ?_
            · (repeat' with_reducible apply AllP_cons) <;> try exact aC
            refine S_round (W3.set e.jid J5, sn ++ [b], out) (by show bs.length - (sn ++ [b]).length < bs.length - sn.length; rw [hsl]; omega) ⟨hL8, hK8, hg8, hm8, hn2, hm2, ?_⟩ (.cons rfl (.cons rfl (.cons rfl (.cons rfl (.nil _))))) rfl
            show out = (sn ++ [b]).filterMap look
            have hlb : look b = none := by rw [hlk]; unfold goneN; rw [hgo]; rfl
            rw [List.filterMap_append, ← hs3, List.filterMap_cons, hlb]; simp
      · intro hall
        refine pao [.b false, .s] rfl ?_ ?_
        · (repeat' with_reducible apply AllP_cons) <;> try exact aC
        refine S_unstamp (id := mid) hL.mb ?_ ⟨.skip, _, .inr ⟨_, _, _, rfl⟩⟩
        have hL5 := hL.stamp none
        rw [curJ_all tk sn bs es hbl hall] at hL5
        have hK5 : QKeep σ (u.set mid (0, some (.map (entK (curJ tk sn bs es)) none))) (OwnL q mid es) (OwnL q mid es) := hK.setO own_m _
        have hg5 : (u.set mid (0, some (.map (entK (curJ tk sn bs es)) none)))[σ.length]? = some (out.length, some (.cells (texts out) ⟨false, none⟩)) := by rw [set_ne hgm]; exact hg
        have hent : entK (curJ tk sn bs es) = entK (es.map tk) := by rw [curJ_all tk sn bs es hbl hall]
        rw [hent] at hK5 hg5
        rw [hent]
        generalize u.set mid (0, some (.map (entK (es.map tk)) none)) = u5 at *
        have hS := SortS_ok out (by have := hnat sn hs1 hs2; omega) hg5
        have hout : sortT out = goneL n es := by
          have hp : sn.Perm bs := (List.perm_ext_iff_of_nodup hs1 hbn).2 fun a => ⟨hs2 a, hall a⟩
          unfold goneL
          refine sortT_eq ?_
          rw [hs3]
          refine (hp.filterMap look).trans ?_
          rw [hlook, lkF (goneN n) bs es hbl hbn, goneF]
        rw [hout] at hS
        have hol2 : out.length = (goneL n es).length := by rw [← hout]; exact (sortT_perm out).length_eq.symm
        refine pao [.f (.tup []) (fun s => s.set σ.length (out.length, some (.cells (texts (goneL n es)) ⟨false, none⟩)))] rfl ?_ ?_
        · (repeat' with_reducible apply AllP_cons) <;> try exact aC
        refine S_ret ⟨_, _, rfl, trivial, σ.length, out.length, ?_, Nat.le_refl _, set_eq hg5, ?_, hK5.set (Nat.le_refl _) _⟩
        · rw [← hol2]; rfl
        · rw [← htk]
          refine hL5.mono (Alive.set hL5.al _ _ _) fun id ho => set_ne fun e => ?_
          subst e
          have : OwnL q mid (es.map tk) = OwnL q mid es := by have := hco sn; rw [curJ_all tk sn bs es hbl hall] at this; exact this
          rw [this] at ho
          exact hno _ (Nat.le_refl _) ho
end Go.Proofs.Ytopdpbcfgjijaaa
end
section
set_option linter.unusedVariables false
set_option linter.unusedSimpArgs false
set_option maxRecDepth 20000
namespace Go.Proofs.Ytopdpbcfgjijaaa
open Go Go.Ab
def nameP (c : Nat) : Prop := (97 ≤ c ∧ c ≤ 122) ∨ (48 ≤ c ∧ c ≤ 57) ∨ c = 95 ∨ c = 45 ∨ c = 46
instance (c : Nat) : Decidable (nameP c) := by unfold nameP; infer_instance
def nameB (c : UInt8) : Bool := decide (nameP c.toNat)
def isName (s : List UInt8) : Bool := s.all nameB && (decide (1 ≤ s.length) && (decide (s.length ≤ 20) && (s != [46] && s != [46, 46])))
theorem takeN {p : UInt8 → Bool} {s : List UInt8} {i : Nat} (h : i < s.length) (ha : (s.take i).all p = true) (hp : p s[i] = true) : (s.take (i + 1)).all p = true := by
  rw [List.take_succ_eq_append_getElem h, List.all_append, ha]
  simp [hp]
theorem notName {s : List UInt8} {i : Nat} (h : i < s.length) (hp : ¬ nameP s[i].toNat) : isName s = false := by
  have : s.all nameB = false := by
    rw [List.all_eq_false]
    exact ⟨s[i], List.getElem_mem h, by simp [nameB, hp]⟩
  rw [isName, this]; rfl
theorem mark_iff {r : Int} : 0 ≤ markAt r ↔ r = 95 ∨ r = 45 ∨ r = 46 := by
  unfold markAt
  split
  · exact ⟨fun _ => .inl (by assumption), fun _ => by decide⟩
  · split
    · exact ⟨fun _ => .inr (.inl (by assumption)), fun _ => by decide⟩
    · split
      · exact ⟨fun _ => .inr (.inr (by assumption)), fun _ => by decide⟩
      · exact ⟨fun h => absurd h (by decide), fun h => by omega⟩
theorem isName_ok (s : List UInt8) (hs : s.length ≤ 9223372036854775807) : Calc cx 27 [.str s] (.bool (isName s)) :=
  pure_intro (fun a w => Try.call27 a w) Try.func27 rfl Try.ntmps27 rfl .bool fun B => by
    refine ab 1000 rfl trivial ?_
    refine S_while (α := Nat) (fun i => [(0, .str s), (6, .ptr 0 0 0)]) (fun i => [(0, some (.siter s i))]) (fun i => i ≤ s.length ∧ (s.take i).all nameB = true) (fun i => s.length - i) 0
      ⟨Nat.zero_le _, rfl⟩ (.cons rfl (.cons rfl (.nil _))) rfl ?_
    rintro i ⟨hi, hN⟩
    refine ab 1000 rfl trivial ?_
    refine S_next rfl rfl rfl rfl rfl (fun hil => ?_) (fun hge => ?_)
    · refine ab 1000 rfl trivial ?_
      refine S_cond rfl (fun _ => ?_) (fun h => by cases h)
      refine ab 1000 rfl trivial ?_
      obtain ⟨r, wd, hrw, hhex, hwd⟩ : ∃ (r wd : Nat), decL s i = (r, wd) ∧ (nameP s[i].toNat ↔ (97 ≤ r ∧ r ≤ 122) ∨ (48 ≤ r ∧ r ≤ 57) ∨ 0 ≤ markAt r) ∧ (nameP s[i].toNat → wd = 1) := by
        by_cases hc : s[i].toNat < 128
        · exact ⟨_, _, decL_lt hil hc, by rw [mark_iff]; unfold nameP; omega, fun _ => rfl⟩
        · have h1 := decL_ge hil (by omega)
          have h2 : ¬ nameP s[i].toNat := by unfold nameP; omega
          obtain ⟨q1, q2, hq⟩ : ∃ a b, decL s i = (a, b) := ⟨_, _, rfl⟩
          rw [hq] at h1
          have h1 : 128 ≤ q1 := h1
          exact ⟨q1, q2, hq, ⟨fun h => absurd h h2, fun h => by rw [mark_iff] at h; omega⟩, fun h => absurd h h2⟩
      rw [hrw]
      refine S_split 3 (fun fr σ => Weak fr [(0, .str s), (6, .ptr 0 0 0), (4, .int .i32 (r : Nat)), (15, .bool (decide (¬ (97 ≤ r ∧ r ≤ 122))))] ∧ σ = [(0, some (.siter s (i + wd)))]) ?_ ?_
      · refine S_guard rfl rfl rfl rfl (fun h => ?_) (fun h => ?_)
        · have h : (r : Int) < 97 := of_decide_eq_true h
          refine ab 1000 rfl trivial ?_
          exact S_inv ⟨.cons rfl (.cons rfl (.cons rfl (.cons (by show AV.bool true = _; rw [decide_eq_true (by omega)]) (.nil _)))), rfl⟩
        · have h : ¬ (r : Int) < 97 := of_decide_eq_false h
          refine ab 1000 rfl trivial ?_
          exact S_inv ⟨.cons rfl (.cons rfl (.cons rfl (.cons (by show AV.bool (decide ((122 : Int) < r)) = _; exact congrArg AV.bool (decide_eq_decide.2 (by omega))) (.nil _)))), rfl⟩
      rintro fr σ ⟨hw, rfl⟩
      refine S_opsW hw ?_
      refine ab 1000 rfl trivial ?_
      refine S_split 7 (fun fr σ => Weak fr [(0, .str s), (6, .ptr 0 0 0), (4, .int .i32 (r : Nat)), (23, .bool (decide (¬ (97 ≤ r ∧ r ≤ 122) ∧ ¬ (48 ≤ r ∧ r ≤ 57))))] ∧ σ = [(0, some (.siter s (i + wd)))]) ?_ ?_
      · refine S_guard rfl rfl rfl rfl (fun h => ?_) (fun h => ?_)
        · have h : ¬ (97 ≤ r ∧ r ≤ 122) := of_decide_eq_true h
          refine ab 1000 rfl trivial ?_
          refine S_guard rfl rfl rfl rfl (fun h2 => ?_) (fun h2 => ?_)
          · have h2 : (r : Int) < 48 := of_decide_eq_true h2
            refine ab 1000 rfl trivial ?_
            exact S_inv ⟨.cons rfl (.cons rfl (.cons rfl (.cons (by show AV.bool true = _; rw [decide_eq_true (by omega)]) (.nil _)))), rfl⟩
          · have h2 : ¬ (r : Int) < 48 := of_decide_eq_false h2
            refine ab 1000 rfl trivial ?_
            exact S_inv ⟨.cons rfl (.cons rfl (.cons rfl (.cons (by show AV.bool (decide ((57 : Int) < r)) = _; exact congrArg AV.bool (decide_eq_decide.2 (by omega))) (.nil _)))), rfl⟩
        · have h : ¬ ¬ (97 ≤ r ∧ r ≤ 122) := of_decide_eq_false h
          refine ab 1000 rfl trivial ?_
          exact S_inv ⟨.cons rfl (.cons rfl (.cons rfl (.cons (by show AV.bool false = _; rw [decide_eq_false (by omega)]) (.nil _)))), rfl⟩
      rintro fr σ ⟨hw, rfl⟩
      refine S_opsW hw ?_
      refine ab 1000 rfl trivial ?_
      have no : ¬ nameP s[i].toNat → AV.bool false = .bool (isName s) := fun h => by rw [notName hil h]
      have yes : nameP s[i].toNat → nameB s[i] = true := fun h => decide_eq_true h
      refine S_guard rfl rfl rfl rfl (fun h => ?_) (fun h => ?_)
      · have h : ¬ (97 ≤ r ∧ r ≤ 122) ∧ ¬ (48 ≤ r ∧ r ≤ 57) := of_decide_eq_true h
        refine ab 1000 rfl trivial ?_
        refine S_pure rfl rfl rfl (containsRune_ok r) (.cons (.refl .str) (.cons (.refl .int) (.nil _))) ?_
        refine ab 1000 rfl trivial ?_
        refine S_cond rfl (fun h3 => ?_) (fun h3 => ?_)
        · have h3 : (!decide (0 ≤ markAt r)) = true := h3
          have h4 : ¬ 0 ≤ markAt r := by simpa using h3
          refine ab 1000 rfl trivial ?_
          exact S_retc .bool rfl trivial (no (fun hn => by have := hhex.1 hn; omega))
        · have h3 : (!decide (0 ≤ markAt r)) = false := h3
          have h4 : 0 ≤ markAt r := by simpa using h3
          have hn := hhex.2 (.inr (.inr h4))
          have := hwd hn
          subst this
          refine ab 1000 rfl trivial ?_
          exact S_round (i + 1) (by show s.length - (i + 1) < s.length - i; omega) ⟨hil, takeN hil hN (yes hn)⟩ (.cons rfl (.cons rfl (.nil _))) rfl
      · have h : ¬ (¬ (97 ≤ r ∧ r ≤ 122) ∧ ¬ (48 ≤ r ∧ r ≤ 57)) := of_decide_eq_false h
        have hn := hhex.2 (by omega)
        have := hwd hn
        subst this
        refine ab 1000 rfl trivial ?_
        refine S_cond rfl (fun h => by cases h) (fun _ => ?_)
        refine ab 1000 rfl trivial ?_
        exact S_round (i + 1) (by show s.length - (i + 1) < s.length - i; omega) ⟨hil, takeN hil hN (yes hn)⟩ (.cons rfl (.cons rfl (.nil _))) rfl
    · have hil : i = s.length := by omega
      refine ab 1000 rfl trivial ?_
      refine S_cond rfl (fun h => by cases h) (fun _ => ?_)
      refine ab 1000 rfl trivial ?_
      rw [hil, List.take_length] at hN
      refine S_guard rfl rfl rfl rfl (fun h => ?_) (fun h => ?_)
      · have h : (1 : Int) ≤ (s.length : Nat) := of_decide_eq_true h
        refine ab 1000 rfl trivial ?_
        refine S_guard rfl rfl rfl rfl (fun h2 => ?_) (fun h2 => ?_)
        · have h2 : (s.length : Int) ≤ 20 := of_decide_eq_true h2
          refine ab 1000 rfl trivial ?_
          refine S_guard rfl rfl rfl rfl (fun h3 => ?_) (fun h3 => ?_)
          · refine ab 1000 rfl trivial ?_
            refine S_retc .bool rfl trivial ?_
            show AV.bool (!(s == [46, 46])) = _
            have h3 : (!(s == [46])) = true := h3
            rw [isName, hN, decide_eq_true (p := 1 ≤ s.length) (by omega), decide_eq_true (p := s.length ≤ 20) (by omega), bne, h3]; rfl
          · refine ab 1000 rfl trivial ?_
            refine S_retc .bool rfl trivial ?_
            have h3 : (!(s == [46])) = false := h3
            rw [isName, hN, decide_eq_true (p := 1 ≤ s.length) (by omega), decide_eq_true (p := s.length ≤ 20) (by omega), bne, h3]; rfl
        · have h2 : ¬ (s.length : Int) ≤ 20 := of_decide_eq_false h2
          refine ab 1000 rfl trivial ?_
          refine S_guard rfl rfl rfl rfl (fun h => by cases h) (fun _ => ?_)
          refine ab 1000 rfl trivial ?_
          refine S_retc .bool rfl trivial ?_
          rw [isName, hN, decide_eq_false (p := s.length ≤ 20) (by omega)]; simp; rfl
      · have h : ¬ (1 : Int) ≤ (s.length : Nat) := of_decide_eq_false h
        refine ab 1000 rfl trivial ?_
        refine S_guard rfl rfl rfl rfl (fun h => by cases h) (fun _ => ?_)
        refine ab 1000 rfl trivial ?_
        refine S_guard rfl rfl rfl rfl (fun h => by cases h) (fun _ => ?_)
        refine ab 1000 rfl trivial ?_
        refine S_retc .bool rfl trivial ?_
        rw [isName, hN, decide_eq_false (p := 1 ≤ s.length) (by omega)]; rfl
theorem IsName_ok (s : List UInt8) (hs : s.length ≤ 9223372036854775807) : Calc cx 28 [.str s] (.bool (isName s)) :=
  pure_intro (fun a w => Try.call28 a w) Try.func28 rfl Try.ntmps28 rfl .bool fun B => by
    refine ab 1000 rfl trivial ?_
    refine S_while (α := Nat) (fun i => [(0, .str s), (3, .int .i64 (i : Nat))]) (fun i => []) (fun i => i ≤ s.length ∧ (s.take i).all nameB = true) (fun i => s.length - i) 0
      ⟨Nat.zero_le _, rfl⟩ (.cons rfl (.cons rfl (.nil _))) rfl ?_
    rintro i ⟨hi, hN⟩
    refine ab 1000 rfl trivial ?_
    refine S_dec rfl (fun hil => ?_) (fun hil => ?_)
    · have hil : i < s.length := Int.ofNat_lt.1 hil
      refine ab 1000 rfl ⟨Int.ofNat_lt.2 hil, by omega, trivial⟩ ?_
      obtain ⟨c, hc⟩ : ∃ c : Nat, c = s[i].toNat := ⟨_, rfl⟩
      have hget : s.getD ((i : Int)).toNat 0 = s[i] := by rw [Int.toNat_natCast]; simp [List.getD, hil]
      refine S_opsW (fr' := [(0, .str s), (3, .int .i64 (i : Nat)), (4, .int .u8 (c : Nat)), (16, .bool (decide (97 ≤ (c : Int))))]) (.cons rfl (.cons rfl (.cons ?_ (.cons ?_ (.nil _))))) ?_
      · show AV.int .u8 (((s.getD ((i : Int)).toNat 0).toNat : Nat) : Int) = _
        rw [hget, hc]
      · show AV.bool (decide (97 ≤ ((((s.getD ((i : Int)).toNat 0).toNat : Nat)) : Int))) = _
        rw [hget, hc]
      refine S_split 3 (fun fr σ => Weak fr [(0, .str s), (3, .int .i64 (i : Nat)), (4, .int .u8 (c : Nat)), (19, .bool (decide (97 ≤ c ∧ c ≤ 122)))] ∧ σ = []) ?_ ?_
      · refine S_guard rfl rfl rfl rfl (fun h => ?_) (fun h => ?_)
        · have h : (97 : Int) ≤ c := of_decide_eq_true h
          refine ab 1000 rfl trivial ?_
          exact S_inv ⟨.cons rfl (.cons rfl (.cons rfl (.cons (by show AV.bool (decide ((c : Int) ≤ 122)) = _; exact congrArg AV.bool (decide_eq_decide.2 (by omega))) (.nil _)))), rfl⟩
        · have h : ¬ (97 : Int) ≤ c := of_decide_eq_false h
          refine ab 1000 rfl trivial ?_
          exact S_inv ⟨.cons rfl (.cons rfl (.cons rfl (.cons (by show AV.bool false = _; rw [decide_eq_false (by omega)]) (.nil _)))), rfl⟩
      rintro fr σ ⟨hw, rfl⟩
      refine S_opsW hw ?_
      refine ab 1000 rfl trivial ?_
      refine S_split 7 (fun fr σ => Weak fr [(0, .str s), (3, .int .i64 (i : Nat)), (4, .int .u8 (c : Nat)), (27, .bool (decide ((97 ≤ c ∧ c ≤ 122) ∨ (48 ≤ c ∧ c ≤ 57))))] ∧ σ = []) ?_ ?_
      · refine S_guard rfl rfl rfl rfl (fun h => ?_) (fun h => ?_)
        · have h : (97 ≤ c ∧ c ≤ 122) := of_decide_eq_true h
          refine ab 1000 rfl trivial ?_
          exact S_inv ⟨.cons rfl (.cons rfl (.cons rfl (.cons (by show AV.bool true = _; rw [decide_eq_true (by omega)]) (.nil _)))), rfl⟩
        · have h : ¬ (97 ≤ c ∧ c ≤ 122) := of_decide_eq_false h
          refine ab 1000 rfl trivial ?_
          refine S_guard rfl rfl rfl rfl (fun h2 => ?_) (fun h2 => ?_)
          · have h2 : (48 : Int) ≤ c := of_decide_eq_true h2
            refine ab 1000 rfl trivial ?_
            exact S_inv ⟨.cons rfl (.cons rfl (.cons rfl (.cons (by show AV.bool (decide ((c : Int) ≤ 57)) = _; exact congrArg AV.bool (decide_eq_decide.2 (by omega))) (.nil _)))), rfl⟩
          · have h2 : ¬ (48 : Int) ≤ c := of_decide_eq_false h2
            refine ab 1000 rfl trivial ?_
            exact S_inv ⟨.cons rfl (.cons rfl (.cons rfl (.cons (by show AV.bool false = _; rw [decide_eq_false (by omega)]) (.nil _)))), rfl⟩
      rintro fr σ ⟨hw, rfl⟩
      refine S_opsW hw ?_
      have beqd : ∀ k : Nat, ((c : Int) == (k : Int)) = decide (c = k) := fun k => by
        by_cases h : c = k
        · subst h; simp
        · have : ¬ (c : Int) = (k : Int) := by omega
          rw [decide_eq_false h, beq_eq_false_iff_ne.2 this]
      refine ab 1000 rfl trivial ?_
      refine S_split 3 (fun fr σ => Weak fr [(0, .str s), (3, .int .i64 (i : Nat)), (4, .int .u8 (c : Nat)), (31, .bool (decide (((97 ≤ c ∧ c ≤ 122) ∨ (48 ≤ c ∧ c ≤ 57)) ∨ c = 95)))] ∧ σ = []) ?_ ?_
      · refine S_guard rfl rfl rfl rfl (fun h => ?_) (fun h => ?_)
        · have h : (97 ≤ c ∧ c ≤ 122) ∨ (48 ≤ c ∧ c ≤ 57) := of_decide_eq_true h
          refine ab 1000 rfl trivial ?_
          exact S_inv ⟨.cons rfl (.cons rfl (.cons rfl (.cons (by show AV.bool true = _; rw [decide_eq_true (by omega)]) (.nil _)))), rfl⟩
        · have h : ¬ ((97 ≤ c ∧ c ≤ 122) ∨ (48 ≤ c ∧ c ≤ 57)) := of_decide_eq_false h
          refine ab 1000 rfl trivial ?_
          exact S_inv ⟨.cons rfl (.cons rfl (.cons rfl (.cons (by show AV.bool ((c : Int) == ((95 : Nat) : Int)) = _; rw [beqd]; exact congrArg AV.bool (decide_eq_decide.2 (by omega))) (.nil _)))), rfl⟩
      rintro fr σ ⟨hw, rfl⟩
      refine S_opsW hw ?_
      refine ab 1000 rfl trivial ?_
      refine S_split 3 (fun fr σ => Weak fr [(0, .str s), (3, .int .i64 (i : Nat)), (4, .int .u8 (c : Nat)), (35, .bool (decide (((97 ≤ c ∧ c ≤ 122) ∨ (48 ≤ c ∧ c ≤ 57)) ∨ c = 95 ∨ c = 45)))] ∧ σ = []) ?_ ?_
      · refine S_guard rfl rfl rfl rfl (fun h => ?_) (fun h => ?_)
        · have h : ((97 ≤ c ∧ c ≤ 122) ∨ (48 ≤ c ∧ c ≤ 57)) ∨ c = 95 := of_decide_eq_true h
          refine ab 1000 rfl trivial ?_
          exact S_inv ⟨.cons rfl (.cons rfl (.cons rfl (.cons (by show AV.bool true = _; rw [decide_eq_true (by omega)]) (.nil _)))), rfl⟩
        · have h : ¬ (((97 ≤ c ∧ c ≤ 122) ∨ (48 ≤ c ∧ c ≤ 57)) ∨ c = 95) := of_decide_eq_false h
          refine ab 1000 rfl trivial ?_
          exact S_inv ⟨.cons rfl (.cons rfl (.cons rfl (.cons (by show AV.bool ((c : Int) == ((45 : Nat) : Int)) = _; rw [beqd]; exact congrArg AV.bool (decide_eq_decide.2 (by omega))) (.nil _)))), rfl⟩
      rintro fr σ ⟨hw, rfl⟩
      refine S_opsW hw ?_
      refine ab 1000 rfl trivial ?_
      refine S_split 3 (fun fr σ => Weak fr [(0, .str s), (3, .int .i64 (i : Nat)), (39, .bool (decide (nameP c)))] ∧ σ = []) ?_ ?_
      · refine S_guard rfl rfl rfl rfl (fun h => ?_) (fun h => ?_)
        · have h : ((97 ≤ c ∧ c ≤ 122) ∨ (48 ≤ c ∧ c ≤ 57)) ∨ c = 95 ∨ c = 45 := of_decide_eq_true h
          refine ab 1000 rfl trivial ?_
          exact S_inv ⟨.cons rfl (.cons rfl (.cons (by show AV.bool true = _; rw [decide_eq_true (by unfold nameP; omega)]) (.nil _))), rfl⟩
        · have h : ¬ (((97 ≤ c ∧ c ≤ 122) ∨ (48 ≤ c ∧ c ≤ 57)) ∨ c = 95 ∨ c = 45) := of_decide_eq_false h
          refine ab 1000 rfl trivial ?_
          exact S_inv ⟨.cons rfl (.cons rfl (.cons (by show AV.bool ((c : Int) == ((46 : Nat) : Int)) = _; rw [beqd]; exact congrArg AV.bool (decide_eq_decide.2 (by unfold nameP; omega))) (.nil _))), rfl⟩
      rintro fr σ ⟨hw, rfl⟩
      refine S_opsW hw ?_
      refine ab 1000 rfl trivial ?_
      refine S_cond rfl (fun h => ?_) (fun h => ?_)
      · have h : (!decide (nameP c)) = true := h
        refine ab 1000 rfl trivial ?_
        refine S_retc .bool rfl trivial ?_
        rw [notName hil (by rw [← hc]; simpa using h)]; rfl
      · have h : (!decide (nameP c)) = false := h
        refine ab 1000 rfl trivial ?_
        refine S_round (i + 1) (by show s.length - (i + 1) < s.length - i; omega) ⟨hil, takeN hil hN (by unfold nameB; rw [← hc]; simpa using h)⟩ (.cons rfl (.cons ?_ (.nil _))) rfl
        show AV.int .i64 (IntKind.i64.wrap ((i : Int) + 1)) = _
        exact congrArg _ (w64 rfl (by omega))
    · have hil : i = s.length := by have : ¬ (i : Int) < (s.length : Nat) := hil; omega
      refine ab 1000 rfl trivial ?_
      rw [hil, List.take_length] at hN
      refine S_guard rfl rfl rfl rfl (fun h => ?_) (fun h => ?_)
      · have h : (1 : Int) ≤ (s.length : Nat) := of_decide_eq_true h
        refine ab 1000 rfl trivial ?_
        refine S_guard rfl rfl rfl rfl (fun h2 => ?_) (fun h2 => ?_)
        · have h2 : (s.length : Int) ≤ 20 := of_decide_eq_true h2
          refine ab 1000 rfl trivial ?_
          refine S_guard rfl rfl rfl rfl (fun h3 => ?_) (fun h3 => ?_)
          · refine ab 1000 rfl trivial ?_
            refine S_retc .bool rfl trivial ?_
            show AV.bool (!(s == [46, 46])) = _
            have h3 : (!(s == [46])) = true := h3
            rw [isName, hN, decide_eq_true (p := 1 ≤ s.length) (by omega), decide_eq_true (p := s.length ≤ 20) (by omega), bne, h3]; rfl
          · refine ab 1000 rfl trivial ?_
            refine S_retc .bool rfl trivial ?_
            have h3 : (!(s == [46])) = false := h3
            rw [isName, hN, decide_eq_true (p := 1 ≤ s.length) (by omega), decide_eq_true (p := s.length ≤ 20) (by omega), bne, h3]; rfl
        · have h2 : ¬ (s.length : Int) ≤ 20 := of_decide_eq_false h2
          refine ab 1000 rfl trivial ?_
          refine S_guard rfl rfl rfl rfl (fun h => by cases h) (fun _ => ?_)
          refine ab 1000 rfl trivial ?_
          refine S_retc .bool rfl trivial ?_
          rw [isName, hN, decide_eq_false (p := s.length ≤ 20) (by omega)]; simp; rfl
      · have h : ¬ (1 : Int) ≤ (s.length : Nat) := of_decide_eq_false h
        refine ab 1000 rfl trivial ?_
        refine S_guard rfl rfl rfl rfl (fun h => by cases h) (fun _ => ?_)
        refine ab 1000 rfl trivial ?_
        refine S_guard rfl rfl rfl rfl (fun h => by cases h) (fun _ => ?_)
        refine ab 1000 rfl trivial ?_
        refine S_retc .bool rfl trivial ?_
        rw [isName, hN, decide_eq_false (p := 1 ≤ s.length) (by omega)]; rfl
end Go.Proofs.Ytopdpbcfgjijaaa
end
section
set_option linter.unusedVariables false
set_option linter.unusedSimpArgs false
set_option maxRecDepth 20000
set_option maxHeartbeats 4000000
namespace Go.Proofs.Ytopdpbcfgjijaaa
open Go Go.Ab
def termA (t : TM) : AV := .agg [.int .i64 t.last, .int .i64 t.tries, .int .i64 t.twins]
def termOk (t : TM) : Bool := witB t.last 1 1000000000 && witB t.tries 1 10 && witB t.twins 1 5
def termB (t : TM) : Nat × Option Box := (0, some (.cells [.int .i64 t.last, .int .i64 t.tries, .int .i64 t.twins] ⟨false, some 23⟩))
theorem New_bad (σ : Heap) (t : TM) (hal : Alive σ) (hb : termOk t = false) :
    CallOk cx 7 [termA t] σ (fun o s => o = .ret (.tup [.nilp, .int .i64 3]) ∧ s = σ ++ [termB t]) :=
  callOk_intro (fun a w => Try.call7 a w) Try.func7 rfl Try.ntmps7 rfl fun B => by
    have hfi : ∀ (s : Heap) (a b c : Int), Frzs s [.int .i64 a, .int .i64 b, .int .i64 c] [.int .i64 a, .int .i64 b, .int .i64 c] := fun s a b c => .cons (.refl .int) (.cons (.refl .int) (.cons (.refl .int) (.nil _)))
    have w1 := within_ok t.last 1 1000000000
    have w2 := within_ok t.tries 1 10
    have w3 := within_ok t.twins 1 5
    have hx : (σ ++ [termB t])[σ.length]? = some (termB t) := app_last
    have hbx : ∀ {n fr o}, o.op = .box 23 (.tmp 0) → ev cx fr (.tmp 0) = termA t → OpSpec cx n fr σ o (.ptr σ.length 0 0) (σ ++ [termB t]) := fun ho he => OpSpec.boxE ho he rfl rfl hal
    unfold termOk at hb
    cases h1 : witB t.last 1 1000000000 with
    | false =>
      rw [h1] at w1
      refine pao [.f (.ptr σ.length 0 0) (fun s => s ++ [termB t]), .v (.int .i64 t.last), .v (.bool false), .b true, .b true, .b true] rfl ?_ ?_
      · (repeat' with_reducible apply AllP_cons) <;> try exact aC
        · exact hbx rfl rfl
        · exact OpSpec.loadP rfl rfl rfl rfl hx rfl
        · exact ⟨_, w1, hfi _ _ _ _⟩
      exact S_ret ⟨_, _, rfl, trivial, rfl, rfl⟩
    | true =>
      rw [h1] at w1 hb
      cases h2 : witB t.tries 1 10 with
      | false =>
        rw [h2] at w2
        refine pao [.f (.ptr σ.length 0 0) (fun s => s ++ [termB t]), .v (.int .i64 t.last), .v (.bool true), .b false, .v (.int .i64 t.tries), .v (.bool false), .b true, .b true] rfl ?_ ?_
        · (repeat' with_reducible apply AllP_cons) <;> try exact aC
          · exact hbx rfl rfl
          · exact OpSpec.loadP rfl rfl rfl rfl hx rfl
          · exact ⟨_, w1, hfi _ _ _ _⟩
          · exact OpSpec.loadP rfl rfl rfl rfl hx rfl
          · exact ⟨_, w2, hfi _ _ _ _⟩
        exact S_ret ⟨_, _, rfl, trivial, rfl, rfl⟩
      | true =>
        rw [h2] at w2 hb
        have h3 : witB t.twins 1 5 = false := by simpa using hb
        rw [h3] at w3
        refine pao [.f (.ptr σ.length 0 0) (fun s => s ++ [termB t]), .v (.int .i64 t.last), .v (.bool true), .b false, .v (.int .i64 t.tries), .v (.bool true), .b false, .v (.int .i64 t.twins), .v (.bool false), .b true] rfl ?_ ?_
        · (repeat' with_reducible apply AllP_cons) <;> try exact aC
          · exact hbx rfl rfl
          · exact OpSpec.loadP rfl rfl rfl rfl hx rfl
          · exact ⟨_, w1, hfi _ _ _ _⟩
          · exact OpSpec.loadP rfl rfl rfl rfl hx rfl
          · exact ⟨_, w2, hfi _ _ _ _⟩
          · exact OpSpec.loadP rfl rfl rfl rfl hx rfl
          · exact ⟨_, w3, hfi _ _ _ _⟩
        exact S_ret ⟨_, _, rfl, trivial, rfl, rfl⟩
theorem New_ok (σ : Heap) (t : TM) (hal : Alive σ) (hb : termOk t = true) :
    CallOk cx 7 [termA t] σ (fun o s => o = .ret (.tup [.ptr (σ.length + 2) 0 0, .int .i64 0]) ∧ s = σ ++ [termB t, (0, some (.map [] none)), (0, some (bookB t 0 (σ.length + 1)))]) :=
  callOk_intro (fun a w => Try.call7 a w) Try.func7 rfl Try.ntmps7 rfl fun B => by
    have hfi : ∀ (s : Heap) (a b c : Int), Frzs s [.int .i64 a, .int .i64 b, .int .i64 c] [.int .i64 a, .int .i64 b, .int .i64 c] := fun s a b c => .cons (.refl .int) (.cons (.refl .int) (.cons (.refl .int) (.nil _)))
    have w1 := within_ok t.last 1 1000000000
    have w2 := within_ok t.tries 1 10
    have w3 := within_ok t.twins 1 5
    have hx : (σ ++ [termB t])[σ.length]? = some (termB t) := app_last
    have hbx : ∀ {n fr o}, o.op = .box 23 (.tmp 0) → ev cx fr (.tmp 0) = termA t → OpSpec cx n fr σ o (.ptr σ.length 0 0) (σ ++ [termB t]) := fun ho he => OpSpec.boxE ho he rfl rfl hal
    unfold termOk at hb
    rw [Bool.and_eq_true, Bool.and_eq_true] at hb
    obtain ⟨⟨h1, h2⟩, h3⟩ := hb
    rw [h1] at w1
    rw [h2] at w2
    rw [h3] at w3
    have hal1 : Alive (σ ++ [termB t]) := Alive.app hal _ _
    have hal2 : Alive ((σ ++ [termB t]) ++ [(0, some (.map [] none))]) := Alive.app hal1 _ _
    have hl1 : (σ ++ [termB t]).length = σ.length + 1 := by simp
    have hl2 : ((σ ++ [termB t]) ++ [((0, some (.map [] none)) : Nat × Option Box)]).length = σ.length + 2 := by simp
    refine pao [.f (.ptr σ.length 0 0) (fun s => s ++ [termB t]), .v (.int .i64 t.last), .v (.bool true), .b false, .v (.int .i64 t.tries), .v (.bool true), .b false, .v (.int .i64 t.twins), .v (.bool true), .b false, .v (termA t), .f (.map (σ.length + 1) 0) (fun s => s ++ [(0, some (.map [] none))]), .f (.ptr (σ.length + 2) 0 0) (fun s => s ++ [(0, some (bookB t 0 (σ.length + 1)))])] rfl ?_ ?_
    · (repeat' with_reducible apply AllP_cons) <;> try exact aC
      · exact hbx rfl rfl
      · exact OpSpec.loadP rfl rfl rfl rfl hx rfl
      · exact ⟨_, w1, hfi _ _ _ _⟩
      · exact OpSpec.loadP rfl rfl rfl rfl hx rfl
      · exact ⟨_, w2, hfi _ _ _ _⟩
      · exact OpSpec.loadP rfl rfl rfl rfl hx rfl
      · exact ⟨_, w3, hfi _ _ _ _⟩
      · exact OpSpec.loadPA rfl rfl rfl rfl hx (lble rfl) rfl
      · rw [← hl1]; exact OpSpec.makeG hal1 rfl
      · rw [← hl2]; exact OpSpec.boxE (y := .agg [.int .i64 t.last, .int .i64 t.tries, .int .i64 t.twins, .int .i64 0, .map (σ.length + 1) 0]) rfl rfl rfl rfl hal2
    refine S_ret ⟨_, _, rfl, trivial, rfl, ?_⟩
    simp
theorem Tick_bad (σ : Heap) (q mid : Nat) (t : TM) (now n : Int) (es : List JE) (h : LAt σ q mid none t now es) (he : errT n now [] ≠ 0) :
    CallOk cx 18 [.ptr q 0 0, .int .i64 n] σ (fun o s => o = .ret (.tup [.nils, .int .i64 (errT n now [])]) ∧ s = σ) :=
  callOk_intro (fun a w => Try.call18 a w) Try.func18 rfl Try.ntmps18 rfl fun B => by
    have hT := time_bad σ q mid t now n es .nils [] h (.inl ⟨rfl, rfl⟩) (by simp) he
    refine pao [.k (.tup [.nils, .int .i64 (errT n now [])])] rfl ?_ ?_
    · (repeat' with_reducible apply AllP_cons) <;> try exact aC
    exact S_ret ⟨_, _, rfl, trivial, rfl, rfl⟩
theorem Tick_ok (σ : Heap) (q mid : Nat) (t : TM) (now n : Int) (es : List JE) (h : LAt σ q mid none t now es) (hT : TilOk es) (hel : es.length ≤ 1000) (he : errT n now [] = 0) :
    CallOk cx 18 [.ptr q 0 0, .int .i64 n] σ (fun o s => ∃ w wv, o = .ret (.tup [.ms w wv 0 (goneL n es).length 1 false, .int .i64 0]) ∧ σ.length ≤ w ∧ s[w]? = some (wv, some (.cells (texts (goneL n es)) ⟨false, none⟩)) ∧ LAt s q mid none t n (es.map (tickE t.tries n)) ∧ QKeep σ s (OwnL q mid es) (OwnL q mid es)) :=
  callOk_intro (fun a w => Try.call18 a w) Try.func18 rfl Try.ntmps18 rfl fun B => by
    have hT := time_ok σ q mid t now n es .nils [] h hT (.inl ⟨rfl, rfl⟩) (by simp) hel he
    refine pao [] rfl ?_ ?_
    · (repeat' with_reducible apply AllP_cons) <;> try exact aC
    refine S_call rfl rfl rfl hT (fun v s hR => ?_) (fun v s hR => by obtain ⟨w, wv, hR, _⟩ := hR; cases hR)
    obtain ⟨w, wv, hR, h1, h2, h3, h4⟩ := hR
    cases hR
    refine pao [] rfl ?_ ?_
    · (repeat' with_reducible apply AllP_cons) <;> try exact aC
    exact S_ret ⟨_, _, rfl, trivial, w, wv, rfl, h1, h2, h3, h4⟩
def stL (es : List JE) (s : Nm) : Int × Int := match atL es s with
  | some i => match es[i]? with
    | some e => (e.st, e.tried)
    | none => (0, 0)
  | none => (0, 0)
theorem State_ok (σ : Heap) (q mid : Nat) (t : TM) (now : Int) (es : List JE) (name : Nm) (h : LAt σ q mid none t now es) :
    CallOk cx 21 [.ptr q 0 0, .str name] σ (fun o s => o = .ret (.tup [.int .i64 (stL es name).1, .int .i64 (stL es name).2]) ∧ s = σ) :=
  callOk_intro (fun a w => Try.call21 a w) Try.func21 rfl Try.ntmps21 rfl fun B => by
    cases ha : atL es name with
    | none =>
      have e0 : stL es name = (0, 0) := by unfold stL; rw [ha]
      refine pao [.v (.map mid 0), .v (.tup [.nilp, .bool false]), .b false] rfl ?_ ?_
      · (repeat' with_reducible apply AllP_cons) <;> try exact aC
        · exact OpSpec.loadP rfl rfl rfl rfl h.qb rfl
        · exact OpSpec.lookG (a := .str name) none rfl rfl rfl rfl rfl h.mb (by rw [findE0, hitE_none ha]) rfl rfl
      rw [e0]
      exact S_ret ⟨_, _, rfl, trivial, rfl, rfl⟩
    | some i =>
      obtain ⟨hi, hn⟩ := atL_some ha
      have e0 : stL es name = (es[i].st, es[i].tried) := by unfold stL; rw [ha]; simp only [List.getElem?_eq_getElem hi]
      have hj := h.jb _ (List.getElem_mem hi)
      refine pao [.v (.map mid 0), .v (.tup [.ptr es[i].jid 0 0, .bool true]), .b true] rfl ?_ ?_
      · (repeat' with_reducible apply AllP_cons) <;> try exact aC
        · exact OpSpec.loadP rfl rfl rfl rfl h.qb rfl
        · exact OpSpec.lookG (a := .str name) (z := .nilp) (some (i, .ptr es[i].jid 0 0)) rfl rfl rfl rfl rfl h.mb (by rw [findE0, hitE_some ha hi]) rfl rfl
      refine S_drawO 10 [.int .i64 es[i].st, .int .i64 es[i].tried] rfl rfl rfl rfl ?_ ?_
      · (repeat' with_reducible apply AllP_cons) <;> try exact aC
        · exact OpSpec.loadP rfl rfl rfl rfl hj rfl
        · exact OpSpec.loadP rfl rfl rfl rfl hj rfl
      refine pao [] rfl ?_ ?_
      · (repeat' with_reducible apply AllP_cons) <;> try exact aC
      rw [e0]
      exact S_ret ⟨_, _, rfl, trivial, rfl, rfl⟩
def addE (es : List JE) (s : Nm) : Int := if isName s = false then 1 else if (atL es s).isSome = true then 6 else if es.length = 200 then 2 else 0
def newJ (s : Nm) (m : Nat) : JE := ⟨s, 1, 0, [], m + 1, m⟩
theorem Add_bad (σ : Heap) (q mid : Nat) (t : TM) (now : Int) (es : List JE) (name : Nm) (h : LAt σ q mid none t now es) (hs : name.length ≤ 9223372036854775807) (hel : es.length ≤ 1000) (he : addE es name ≠ 0) :
    CallOk cx 10 [.ptr q 0 0, .str name] σ (fun o s => o = .ret (.int .i64 (addE es name)) ∧ s = σ) :=
  callOk_intro (fun a w => Try.call10 a w) Try.func10 rfl Try.ntmps10 rfl fun B => by
    have hN := isName_ok name hs
    have hfn : ∀ s : Heap, Frzs s [.str name] [.str name] := fun s => .cons (.refl .str) (.nil _)
    cases h1 : isName name with
    | false =>
      rw [h1] at hN
      refine pao [.v (.bool false), .b true] rfl ?_ ?_
      · (repeat' with_reducible apply AllP_cons) <;> try exact aC
        · exact ⟨_, hN, hfn _⟩
      refine S_ret ⟨_, _, rfl, trivial, ?_, rfl⟩
      unfold addE; rw [if_pos h1]; rfl
    | true =>
      rw [h1] at hN
      cases ha : atL es name with
      | some i =>
        obtain ⟨hi, hn⟩ := atL_some ha
        refine pao [.v (.bool true), .b false, .v (.map mid 0), .v (.tup [.ptr es[i].jid 0 0, .bool true]), .b true] rfl ?_ ?_
        · (repeat' with_reducible apply AllP_cons) <;> try exact aC
          · exact ⟨_, hN, hfn _⟩
          · exact OpSpec.loadP rfl rfl rfl rfl h.qb rfl
          · exact OpSpec.lookG (a := .str name) (z := .nilp) (some (i, .ptr es[i].jid 0 0)) rfl rfl rfl rfl rfl h.mb (by rw [findE0, hitE_some ha hi]) rfl rfl
        refine S_ret ⟨_, _, rfl, trivial, ?_, rfl⟩
        unfold addE; rw [if_neg (by rw [h1]; simp), if_pos (by rw [ha]; rfl)]; rfl
      | none =>
        have hl : es.length = 200 := by
          by_cases hl : es.length = 200
          · exact hl
          · exact absurd (by unfold addE; rw [if_neg (by rw [h1]; simp), if_neg (by rw [ha]; simp), if_neg hl]) he
        have hel : (entK es).length = es.length := by simp [entK]
        have c1 : ((((entK es).length : Nat) : Int) == 200) = true := by rw [hel, hl]; rfl
        refine pao [.v (.bool true), .b false, .v (.map mid 0), .v (.tup [.nilp, .bool false]), .b false, .v (.map mid 0), .s] rfl ?_ ?_
        · (repeat' with_reducible apply AllP_cons) <;> try exact aC
          · exact ⟨_, hN, hfn _⟩
          · exact OpSpec.loadP rfl rfl rfl rfl h.qb rfl
          · exact OpSpec.lookG (a := .str name) none rfl rfl rfl rfl rfl h.mb (by rw [findE0, hitE_none ha]) rfl rfl
          · exact OpSpec.loadP rfl rfl rfl rfl h.qb rfl
        refine pao [.o (.int .i64 (entK es).length) (fun s => s), .b true] rfl ?_ ?_
        · (repeat' with_reducible apply AllP_cons) <;> try exact aC
          · exact OpSpec.lenG rfl rfl rfl h.mb
        refine S_ret ⟨_, _, rfl, trivial, ?_, rfl⟩
        unfold addE; rw [if_neg (by rw [h1]; simp), if_neg (by rw [ha]; simp), if_pos hl]; rfl
theorem Add_ok (σ : Heap) (q mid : Nat) (t : TM) (now : Int) (es : List JE) (name : Nm) (h : LAt σ q mid none t now es) (hs : name.length ≤ 9223372036854775807) (hel : es.length ≤ 1000) (he : addE es name = 0) :
    CallOk cx 10 [.ptr q 0 0, .str name] σ (fun o s => o = .ret (.int .i64 0) ∧ LAt s q mid none t now (es ++ [newJ name σ.length]) ∧ QKeep σ s (OwnL q mid es) (OwnL q mid (es ++ [newJ name σ.length]))) :=
  callOk_intro (fun a w => Try.call10 a w) Try.func10 rfl Try.ntmps10 rfl fun B => by
    have hN := isName_ok name hs
    have hfn : ∀ s : Heap, Frzs s [.str name] [.str name] := fun s => .cons (.refl .str) (.nil _)
    have h1 : isName name = true := by
      cases h1 : isName name with
      | true => rfl
      | false => unfold addE at he; rw [if_pos h1] at he; cases he
    rw [h1] at hN
    have ha : atL es name = none := by
      cases ha : atL es name with
      | none => rfl
      | some i => unfold addE at he; rw [if_neg (by rw [h1]; simp), if_pos (by rw [ha]; rfl)] at he; cases he
    have hl : es.length ≠ 200 := fun hl => by unfold addE at he; rw [if_neg (by rw [h1]; simp), if_neg (by rw [ha]; simp), if_pos hl] at he; cases he
    have hel : (entK es).length = es.length := by simp [entK]
    have c1 : ((((entK es).length : Nat) : Int) == 200) = false := by
      rw [hel]
      have : (es.length : Int) ≠ 200 := by omega
      simpa using this
    refine pao [.v (.bool true), .b false, .v (.map mid 0), .v (.tup [.nilp, .bool false]), .b false, .v (.map mid 0), .s] rfl ?_ ?_
    · (repeat' with_reducible apply AllP_cons) <;> try exact aC
      · exact ⟨_, hN, hfn _⟩
      · exact OpSpec.loadP rfl rfl rfl rfl h.qb rfl
      · exact OpSpec.lookG (a := .str name) none rfl rfl rfl rfl rfl h.mb (by rw [findE0, hitE_none ha]) rfl rfl
      · exact OpSpec.loadP rfl rfl rfl rfl h.qb rfl
    obtain ⟨M0, hM0⟩ : ∃ M0 : Nat × Option Box, M0 = (0, some (.map [] none)) := ⟨_, rfl⟩
    obtain ⟨J0, hJ0⟩ : ∃ J0 : Nat × Option Box, J0 = (0, some (jobB (newJ name σ.length))) := ⟨_, rfl⟩
    obtain ⟨E0, hE0⟩ : ∃ E0 : Nat × Option Box, E0 = (0, some (.map (entK (es ++ [newJ name σ.length])) none)) := ⟨_, rfl⟩
    have hL1 : LAt (σ ++ [M0]) q mid none t now es := by rw [hM0]; exact h.app _ _
    have hL2 : LAt ((σ ++ [M0]) ++ [J0]) q mid none t now es := by rw [hJ0]; exact hL1.app _ _
    have hl1 : (σ ++ [M0]).length = σ.length + 1 := by simp
    refine pao [.o (.int .i64 (entK es).length) (fun s => s), .b false, .v (.map mid 0), .f (.map σ.length 0) (fun s => s ++ [M0]), .f (.ptr (σ.length + 1) 0 0) (fun s => s ++ [J0]), .f (.tup []) (fun s => s.set mid E0)] rfl ?_ ?_
    · (repeat' with_reducible apply AllP_cons) <;> try exact aC
      · exact OpSpec.lenG rfl rfl rfl h.mb
      · exact OpSpec.loadP rfl rfl rfl rfl h.qb rfl
      · rw [hM0]; exact OpSpec.makeG h.al rfl
      · rw [← hl1, hJ0]; exact OpSpec.boxE (y := .agg [.int .i64 1, .int .i64 0, .map σ.length 0]) rfl rfl rfl rfl hL1.al
      · refine OpSpec.putG (a := .str name) (v := .ptr (σ.length + 1) 0 0) none rfl rfl rfl rfl rfl rfl hL2.mb (by rw [findE0, hitE_none ha]) ?_
        rw [hE0]
        have : setK (entK es) (.str name) (.ptr (σ.length + 1) 0 0) none = entK (es ++ [newJ name σ.length]) := by unfold entK; rw [List.map_append]; rfl
        rw [this]; rfl
    refine S_ret ⟨_, _, rfl, trivial, rfl, ?_, ?_⟩
    · show LAt (((σ ++ [M0]) ++ [J0]).set mid E0) q mid none t now _
      have hlt := fun id ho => h.lt id ho
      have hqm := h.qm
      have hm1 : σ.length ≠ mid := fun e => by have := hlt mid own_m; omega
      have hm2 : σ.length + 1 ≠ mid := fun e => by have := hlt mid own_m; omega
      have hg1 : ((σ ++ [M0]) ++ [J0])[σ.length]? = some M0 := app_get app_last
      have hg2 : ((σ ++ [M0]) ++ [J0])[σ.length + 1]? = some J0 := by rw [← hl1]; exact app_last
      refine ⟨Alive.set' hL2.al (by rw [hE0]; exact ⟨_, rfl⟩) _, by rw [set_ne hqm]; exact hL2.qb, by rw [set_eq hL2.mb, hE0], fun e hm => ?_, fun e hm => ?_, ?_⟩
      · rcases List.mem_append.1 hm with hm | hm
        · rw [set_ne (h.ap hm).jm]; exact hL2.jb e hm
        · have : e = newJ name σ.length := by simpa using hm
          subst this
          show (((σ ++ [M0]) ++ [J0]).set mid E0)[σ.length + 1]? = _
          rw [set_ne hm2, hg2, hJ0]
      · rcases List.mem_append.1 hm with hm | hm
        · rw [set_ne (h.ap hm).tm]; exact hL2.tb e hm
        · have : e = newJ name σ.length := by simpa using hm
          subst this
          show (((σ ++ [M0]) ++ [J0]).set mid E0)[σ.length]? = _
          rw [set_ne hm1, hg1, hM0]; rfl
      · have e1 : idsL q mid (es ++ [newJ name σ.length]) = idsL q mid es ++ [σ.length + 1, σ.length] := by unfold idsL idsJ; rw [List.flatMap_append]; rfl
        rw [e1]
        refine List.nodup_append.2 ⟨h.nd, by simp, fun x hx y hy => ?_⟩
        have := hlt x hx
        simp at hy
        omega
    · have e1 : ∀ id, OwnL q mid (es ++ [newJ name σ.length]) id → OwnL q mid es id ∨ σ.length ≤ id := fun id ho => by
        have e1 : idsL q mid (es ++ [newJ name σ.length]) = idsL q mid es ++ [σ.length + 1, σ.length] := by unfold idsL idsJ; rw [List.flatMap_append]; rfl
        unfold OwnL at ho
        rw [e1] at ho
        rcases List.mem_append.1 ho with ho | ho
        · exact .inl ho
        · simp at ho; omega
      have hk : QKeep σ (((σ ++ [M0]) ++ [J0]).set mid E0) (OwnL q mid es) (OwnL q mid es) := (QKeep.app.trans QKeep.app).setO own_m _
      exact hk.own e1
end Go.Proofs.Ytopdpbcfgjijaaa
end
section
set_option linter.unusedVariables false
set_option linter.unusedSimpArgs false
set_option maxRecDepth 20000
set_option maxHeartbeats 4000000
namespace Go.Proofs.Ytopdpbcfgjijaaa
open Go Go.Ab
def hasW (l : List (Int × Int)) (w : Int) : Option Nat := l.findIdx? fun p => p.1 == w
def lookW (l : List (Int × Int)) (w : Int) : AV := match hasW l w with
  | some j => .tup [.int .i64 (l.getD j (0, 0)).2, .bool true]
  | none => .tup [.int .i64 0, .bool false]
def codeS (r : Int × Int × List JE) : Int := r.1
def nowS (r : Int × Int × List JE) : Int := r.2.1
def esS (r : Int × Int × List JE) : List JE := r.2.2
def grE (t : TM) (n w : Int) (e : JE) : JE := { e with st := 2, tried := e.tried + 1, till := e.till ++ [(w, n + t.last)] }
def grC (t : TM) (w : Int) (e : JE) : Int := if e.st = 3 ∨ e.st = 4 then 4 else if (hasW e.till w).isSome = true then 6 else if (e.till.length : Int) = t.twins ∨ e.tried = t.tries then 2 else 0
def grantS (t : TM) (now n w : Int) (s : Nm) (es : List JE) : Int × Int × List JE :=
  if errT n now [w] = 0 then
    match atL (es.map (tickE t.tries n)) s with
    | none => (5, n, es.map (tickE t.tries n))
    | some i => match (es.map (tickE t.tries n))[i]? with
      | none => (5, n, es.map (tickE t.tries n))
      | some e => if grC t w e = 0 then (0, n, (es.map (tickE t.tries n)).set i (grE t n w e)) else (grC t w e, n, es.map (tickE t.tries n))
  else (errT n now [w], now, es)
structure BdOk (t : TM) (es : List JE) : Prop where
  l1 : 1 ≤ t.last
  l2 : t.last ≤ 1000000000
  el : es.length ≤ 1000
  tr : ∀ e ∈ es, 0 ≤ e.tried ∧ e.tried ≤ 1000
  tl : TilOk es
theorem own_map {q mid : Nat} {es : List JE} (f : JE → JE) (hf : ∀ e, (f e).jid = e.jid ∧ (f e).tid = e.tid) : OwnL q mid (es.map f) = OwnL q mid es := by
  funext id
  unfold OwnL idsL idsJ
  rw [List.flatMap_map]
  have : (fun a => [(f a).jid, (f a).tid]) = fun e : JE => [e.jid, e.tid] := by
    funext a; rw [(hf a).1, (hf a).2]
  rw [this]
theorem errT_n {n now : Int} {ws : List Int} (h : errT n now ws = 0) : 0 ≤ n ∧ n ≤ 1000000000 ∧ now ≤ n := by
  unfold errT at h
  by_cases h1 : ws.any wrkB = true
  · rw [if_pos h1] at h; cases h
  rw [if_neg h1] at h
  by_cases h2 : witB n 0 1000000000 = false
  · rw [if_pos h2] at h; cases h
  rw [if_neg h2] at h
  by_cases h3 : n < now
  · rw [if_pos h3] at h; cases h
  have h2 : witB n 0 1000000000 = true := by simpa using h2
  unfold witB at h2
  rw [Bool.and_eq_true] at h2
  have h4 := of_decide_eq_true h2.1
  have h5 := of_decide_eq_true h2.2
  exact ⟨h4, h5, by omega⟩
theorem lookW_spec {cx : Cx} {n : Nat} {fr : Fr} {σ : Heap} {o : Oper} {m key : Operand} {tid : Nat} {l : List (Int × Int)} {w : Int} {st : MS} (ho : o.op = .lookup 63 m key true) (ht : cx.P.underlying 63 = some (.map 3 3)) (hk : keyFits cx.P 3 (.int .i64 w) = true) (hz : zeroV cx.P 3 = some (.int .i64 0))
    (hm : ev cx fr m = .map tid 0) (hw : ev cx fr key = .int .i64 w) (hσ : σ[tid]? = some (0, some (.map (tilK l) st))) : OpSpec cx n fr σ o (lookW l w) σ := by
  refine OpSpec.lookG (a := .int .i64 w) (hitI l w) ho ht hw hk hm hσ (findI0 l w) hz ?_
  unfold hitI lookW hasW
  cases l.findIdx? fun p => p.1 == w with
  | none => rfl
  | some j => rfl
theorem LAt.job1 {σ : Heap} {q mid : Nat} {ms : MS} {t : TM} {now : Int} {es : List JE} (h : LAt σ q mid ms t now es) {i : Nat} (hi : i < es.length) (e : JE) (h1 : e.jid = es[i].jid) (h2 : e.tid = es[i].tid) (h3 : e.name = es[i].name) :
    LAt ((σ.set es[i].jid (0, some (jobB e))).set es[i].tid (0, some (.map (tilK e.till) none))) q mid ms t now (es.set i e) := by
  have hm := List.getElem_mem hi
  have ap := h.ap hm
  refine h.job hi e h1 h2 h3 (Alive.set (Alive.set h.al _ _ _) _ _ _) ?_ (set_eq (y := (0, some (.map (tilK es[i].till) none))) (by rw [set_ne ap.jt.symm]; exact h.tb _ hm)) fun id _ k1 k2 => by rw [set_ne k2, set_ne k1]
  rw [set_ne ap.jt]; exact set_eq (h.jb _ hm)
theorem Grant_ok (σ : Heap) (q mid : Nat) (t : TM) (now n w : Int) (es : List JE) (name : Nm) (h : LAt σ q mid none t now es) (hb : BdOk t es) :
    CallOk cx 12 [.ptr q 0 0, .str name, .int .i64 w, .int .i64 n] σ (fun o s => o = .ret (.int .i64 (codeS (grantS t now n w name es))) ∧ LAt s q mid none t (nowS (grantS t now n w name es)) (esS (grantS t now n w name es)) ∧ QKeep σ s (OwnL q mid es) (OwnL q mid es)) :=
  callOk_intro (fun a w => Try.call12 a w) Try.func12 rfl Try.ntmps12 rfl fun B => by
    by_cases he : errT n now [w] = 0
    · have hT := time_ok σ q mid t now n es (.sl true true 1 (intsA [w])) [w] h hb.tl (.inr ⟨_, _, rfl⟩) (by simp) hb.el he
      obtain ⟨hn0, hn1, _⟩ := errT_n he
      refine pao [] rfl ?_ ?_
      · (repeat' with_reducible apply AllP_cons) <;> try exact aC
      refine S_call rfl rfl rfl hT (fun v s hR => ?_) (fun v s hR => by obtain ⟨w, wv, hR, _⟩ := hR; cases hR)
      obtain ⟨ow, wv, hR, _, _, hL, hK⟩ := hR
      cases hR
      unfold grantS
      rw [if_pos he]
      obtain ⟨T, hTd⟩ : ∃ T, T = es.map (tickE t.tries n) := ⟨_, rfl⟩
      have hown : OwnL q mid T = OwnL q mid es := by rw [hTd]; exact own_map _ fun e => ⟨(tickE_jid _ _ e).1, (tickE_jid _ _ e).2.1⟩
      have htr : ∀ e ∈ T, 0 ≤ e.tried ∧ e.tried ≤ 1000 := fun e hm => by
        rw [hTd] at hm
        obtain ⟨x, hx, rfl⟩ := List.mem_map.1 hm
        rw [(tickE_jid _ _ x).2.2.2.2]; exact hb.tr x hx
      rw [← hTd] at hL ⊢
      cases ha : atL T name with
      | none =>
        refine pao [.b false, .v (.map mid 0), .v (.tup [.nilp, .bool false]), .b true] rfl ?_ ?_
        · (repeat' with_reducible apply AllP_cons) <;> try exact aC
          · exact OpSpec.loadP rfl rfl rfl rfl hL.qb rfl
          · exact OpSpec.lookG (a := .str name) none rfl rfl rfl rfl rfl hL.mb (by rw [findE0, hitE_none ha]) rfl rfl
        exact S_ret ⟨_, _, rfl, trivial, rfl, hL, hK⟩
      | some i =>
        obtain ⟨hi, hn⟩ := atL_some ha
        have hge : T[i]? = some T[i] := List.getElem?_eq_getElem hi
        simp only [hge]
        have hm := List.getElem_mem hi
        obtain ⟨e, hee⟩ : ∃ e, e = T[i] := ⟨_, rfl⟩
        rw [← hee] at hm ⊢
        have hj := hL.jb e hm
        have ht := hL.tb e hm
        have ap := hL.ap hm
        have htl : (tilK e.till).length = e.till.length := by simp [tilK]
        by_cases c3 : e.st = 3
        · have c3' : (e.st == 3) = true := by simp [c3]
          refine pao [.b false, .v (.map mid 0), .v (.tup [.ptr e.jid 0 0, .bool true]), .b false, .v (.int .i64 e.st), .b true, .b true] rfl ?_ ?_
          · (repeat' with_reducible apply AllP_cons) <;> try exact aC
            · exact OpSpec.loadP rfl rfl rfl rfl hL.qb rfl
            · exact OpSpec.lookG (a := .str name) (z := .nilp) (some (i, .ptr e.jid 0 0)) rfl rfl rfl rfl rfl hL.mb (by rw [findE0, hitE_some ha hi, hee]) rfl rfl
            · exact OpSpec.loadP rfl rfl rfl rfl hj rfl
          have hg : grC t w e = 4 := by unfold grC; rw [if_pos (.inl c3)]
          rw [hg]
          exact S_ret ⟨_, _, rfl, trivial, rfl, hL, hK⟩
        have c3' : (e.st == 3) = false := by simp [c3]
        by_cases c4 : e.st = 4
        · have c4' : (e.st == 4) = true := by simp [c4]
          refine pao [.b false, .v (.map mid 0), .v (.tup [.ptr e.jid 0 0, .bool true]), .b false, .v (.int .i64 e.st), .b false, .v (.int .i64 e.st), .b true] rfl ?_ ?_
          · (repeat' with_reducible apply AllP_cons) <;> try exact aC
            · exact OpSpec.loadP rfl rfl rfl rfl hL.qb rfl
            · exact OpSpec.lookG (a := .str name) (z := .nilp) (some (i, .ptr e.jid 0 0)) rfl rfl rfl rfl rfl hL.mb (by rw [findE0, hitE_some ha hi, hee]) rfl rfl
            · exact OpSpec.loadP rfl rfl rfl rfl hj rfl
            · exact OpSpec.loadP rfl rfl rfl rfl hj rfl
          have hg : grC t w e = 4 := by unfold grC; rw [if_pos (.inr c4)]
          rw [hg]
          exact S_ret ⟨_, _, rfl, trivial, rfl, hL, hK⟩
        have c4' : (e.st == 4) = false := by simp [c4]
        cases hh : hasW e.till w with
        | some j =>
          have hlk : lookW e.till w = .tup [.int .i64 (e.till.getD j (0, 0)).2, .bool true] := by unfold lookW; rw [hh]
          refine pao [.b false, .v (.map mid 0), .v (.tup [.ptr e.jid 0 0, .bool true]), .b false, .v (.int .i64 e.st), .b false, .v (.int .i64 e.st), .b false, .v (.map e.tid 0), .v (.tup [.int .i64 (e.till.getD j (0, 0)).2, .bool true]), .b true] rfl ?_ ?_
          · (repeat' with_reducible apply AllP_cons) <;> try exact aC
            · exact OpSpec.loadP rfl rfl rfl rfl hL.qb rfl
            · exact OpSpec.lookG (a := .str name) (z := .nilp) (some (i, .ptr e.jid 0 0)) rfl rfl rfl rfl rfl hL.mb (by rw [findE0, hitE_some ha hi, hee]) rfl rfl
            · exact OpSpec.loadP rfl rfl rfl rfl hj rfl
            · exact OpSpec.loadP rfl rfl rfl rfl hj rfl
            · exact OpSpec.loadP rfl rfl rfl rfl hj rfl
            · rw [← hlk]; exact lookW_spec rfl rfl rfl rfl rfl rfl ht
          have hg : grC t w e = 6 := by unfold grC; rw [if_neg (by simp [c3, c4]), if_pos (by rw [hh]; rfl)]
          rw [hg]
          exact S_ret ⟨_, _, rfl, trivial, rfl, hL, hK⟩
        | none =>
          have hlk : lookW e.till w = .tup [.int .i64 0, .bool false] := by unfold lookW; rw [hh]
          refine pao [.b false, .v (.map mid 0), .v (.tup [.ptr e.jid 0 0, .bool true]), .b false, .v (.int .i64 e.st), .b false, .v (.int .i64 e.st), .b false, .v (.map e.tid 0), .v (.tup [.int .i64 0, .bool false]), .b false] rfl ?_ ?_
          · (repeat' with_reducible apply AllP_cons) <;> try exact aC
            · exact OpSpec.loadP rfl rfl rfl rfl hL.qb rfl
            · exact OpSpec.lookG (a := .str name) (z := .nilp) (some (i, .ptr e.jid 0 0)) rfl rfl rfl rfl rfl hL.mb (by rw [findE0, hitE_some ha hi, hee]) rfl rfl
            · exact OpSpec.loadP rfl rfl rfl rfl hj rfl
            · exact OpSpec.loadP rfl rfl rfl rfl hj rfl
            · exact OpSpec.loadP rfl rfl rfl rfl hj rfl
            · rw [← hlk]; exact lookW_spec rfl rfl rfl rfl rfl rfl ht
          by_cases c5 : (e.till.length : Int) = t.twins
          · have c5' : ((((tilK e.till).length : Nat) : Int) == t.twins) = true := by rw [htl]; simp [c5]
            refine S_drawO 23 [.map e.tid 0, .int .i64 (tilK e.till).length, .int .i64 t.twins, .bool true] rfl rfl rfl rfl ?_ ?_
            · (repeat' with_reducible apply AllP_cons) <;> try exact aC
              · exact OpSpec.loadP rfl rfl rfl rfl hj rfl
              · exact OpSpec.lenG rfl rfl rfl ht
              · exact OpSpec.loadP rfl rfl rfl rfl hL.qb rfl
            refine pao [.b true] rfl ?_ ?_
            · (repeat' with_reducible apply AllP_cons) <;> try exact aC
            have hg : grC t w e = 2 := by unfold grC; rw [if_neg (by simp [c3, c4]), if_neg (by rw [hh]; simp), if_pos (.inl c5)]
            rw [hg]
            exact S_ret ⟨_, _, rfl, trivial, rfl, hL, hK⟩
          have c5' : ((((tilK e.till).length : Nat) : Int) == t.twins) = false := by rw [htl]; simp [c5]
          refine S_drawO 23 [.map e.tid 0, .int .i64 (tilK e.till).length, .int .i64 t.twins, .bool false, .int .i64 e.tried, .int .i64 t.tries] rfl rfl rfl rfl ?_ ?_
          · (repeat' with_reducible apply AllP_cons) <;> try exact aC
            · exact OpSpec.loadP rfl rfl rfl rfl hj rfl
            · exact OpSpec.lenG rfl rfl rfl ht
            · exact OpSpec.loadP rfl rfl rfl rfl hL.qb rfl
            · exact OpSpec.loadP rfl rfl rfl rfl hj rfl
            · exact OpSpec.loadP rfl rfl rfl rfl hL.qb rfl
          by_cases c6 : e.tried = t.tries
          · have c6' : (e.tried == t.tries) = true := by simp [c6]
            refine pao [.b true] rfl ?_ ?_
            · (repeat' with_reducible apply AllP_cons) <;> try exact aC
            have hg : grC t w e = 2 := by unfold grC; rw [if_neg (by simp [c3, c4]), if_neg (by rw [hh]; simp), if_pos (.inr c6)]
            rw [hg]
            exact S_ret ⟨_, _, rfl, trivial, rfl, hL, hK⟩
          have c6' : (e.tried == t.tries) = false := by simp [c6]
          have hg : grC t w e = 0 := by unfold grC; rw [if_neg (by simp [c3, c4]), if_neg (by rw [hh]; simp), if_neg (by simp [c5, c6])]
          obtain ⟨ht0, ht1⟩ := htr e hm
          obtain ⟨J1, hJ1⟩ : ∃ J1 : Nat × Option Box, J1 = (0, some (jobB { e with st := 2 })) := ⟨_, rfl⟩
          obtain ⟨J2, hJ2⟩ : ∃ J2 : Nat × Option Box, J2 = (0, some (jobB (grE t n w e))) := ⟨_, rfl⟩
          obtain ⟨T2, hT2⟩ : ∃ T2 : Nat × Option Box, T2 = (0, some (.map (tilK (grE t n w e).till) none)) := ⟨_, rfl⟩
          have hj1 : (s.set e.jid J1)[e.jid]? = some (0, some (jobB { e with st := 2 })) := by rw [set_eq hj, hJ1]
          refine pao [.b false, .f (.tup []) (fun s => s.set e.jid J1), .v (.int .i64 e.tried), .f (.tup []) (fun s => s.set e.jid J2)] rfl ?_ ?_
          · (repeat' with_reducible apply AllP_cons) <;> try exact aC
            · exact OpSpec.storeP (id := e.jid) (gT := some 65) (cs := [.int .i64 e.st, .int .i64 e.tried, .map e.tid 0]) rfl rfl rfl rfl rfl rfl hj (lble rfl) (by rw [hJ1]; rfl)
            · exact OpSpec.loadP rfl rfl rfl rfl hj1 rfl
            · refine OpSpec.storeP (id := e.jid) (gT := some 65) (cs := [.int .i64 2, .int .i64 e.tried, .map e.tid 0]) rfl rfl rfl rfl rfl rfl hj1 (lble rfl) ?_
              have hw1 : IntKind.i64.wrap (e.tried + 1) = e.tried + 1 := IntWalk.i64_in _ ⟨by omega, by omega⟩
              have hjb : J2 = (0, some (Box.cells [.int .i64 2, .int .i64 (IntKind.i64.wrap (e.tried + 1)), .map e.tid 0] ⟨false, some 65⟩)) := by rw [hJ2, hw1]; rfl
              rw [hjb]; rfl
          refine S_heap (s.set e.jid J2) (by show (s.set e.jid J1).set e.jid J2 = _; rw [List.set_set]) ?_
          have hj2 : (s.set e.jid J2)[e.jid]? = some (0, some (jobB (grE t n w e))) := by rw [set_eq hj, hJ2]
          have hq2 : (s.set e.jid J2)[q]? = some (0, some (bookB t n mid)) := by rw [set_ne ap.jq.symm]; exact hL.qb
          have ht2 : (s.set e.jid J2)[e.tid]? = some (0, some (.map (tilK e.till) none)) := by rw [set_ne ap.jt.symm]; exact ht
          refine S_drawO 12 [.map e.tid 0, .int .i64 t.last] rfl rfl rfl rfl ?_ ?_
          · (repeat' with_reducible apply AllP_cons) <;> try exact aC
            · exact OpSpec.loadP rfl rfl rfl rfl hj2 rfl
            · exact OpSpec.loadP rfl rfl rfl rfl hq2 rfl
          refine pao [.f (.tup []) (fun s => s.set e.tid T2)] rfl ?_ ?_
          · (repeat' with_reducible apply AllP_cons) <;> try exact aC
            · refine OpSpec.putG (a := .int .i64 w) (v := .int .i64 (n + t.last)) (hitI e.till w) rfl rfl rfl rfl rfl ?_ ht2 (by rw [findI0]) ?_
              · show AV.int .i64 (IntKind.i64.wrap (n + t.last)) = _
                exact ai64i rfl ⟨by have := hb.l1; omega, by have := hb.l2; omega⟩
              · have hhi : hitI e.till w = none := by unfold hitI; unfold hasW at hh; rw [hh]; rfl
                rw [hhi, hT2]
                show List.set _ _ (0, some (Box.map (tilK e.till ++ [(.int .i64 w, .int .i64 (n + t.last))]) none)) = _
                have : tilK e.till ++ [(AV.int .i64 w, AV.int .i64 (n + t.last))] = tilK (grE t n w e).till := by unfold tilK grE; rw [List.map_append]; rfl
                rw [this]
          rw [if_pos hg]
          refine S_ret ⟨_, _, rfl, trivial, rfl, ?_, ?_⟩
          · have := hL.job1 hi (grE t n w e) (by rw [← hee]; rfl) (by rw [← hee]; rfl) (by rw [← hee]; rfl)
            rw [← hee] at this
            show LAt ((s.set e.jid J2).set e.tid T2) q mid none t n (T.set i (grE t n w e))
            rw [hJ2, hT2]; exact this
          · exact (hK.setO (by rw [← hown]; exact own_j hm) _).setO (by rw [← hown]; exact own_t hm) _
    · have hT := time_bad σ q mid t now n es (.sl true true 1 (intsA [w])) [w] h (.inr ⟨_, _, rfl⟩) (by simp) he
      unfold grantS
      rw [if_neg he]
      have c1 : (errT n now [w] != 0) = true := by simp [he]
      refine pao [.k (.tup [.nils, .int .i64 (errT n now [w])]), .b true] rfl ?_ ?_
      · (repeat' with_reducible apply AllP_cons) <;> try exact aC
      exact S_ret ⟨_, _, rfl, trivial, rfl, h, QKeep.refl⟩
end Go.Proofs.Ytopdpbcfgjijaaa
end
section
set_option linter.unusedVariables false
set_option linter.unusedSimpArgs false
set_option maxRecDepth 20000
set_option maxHeartbeats 4000000
namespace Go.Proofs.Ytopdpbcfgjijaaa
open Go Go.Ab
def fndL (T : List JE) (s : Nm) (w : Int) : Option Nat := match atL T s with
  | none => none
  | some i => match T[i]? with
    | none => none
    | some e => match hasW e.till w with
      | none => none
      | some _ => some i
def ptrL (T : List JE) : Option Nat → AV
  | none => .tup [.nilp, .int .i64 5]
  | some i => match T[i]? with
    | none => .tup [.nilp, .int .i64 5]
    | some e => .tup [.ptr e.jid 0 0, .int .i64 0]
theorem fndL_some {T : List JE} {s : Nm} {w : Int} {i : Nat} (h : fndL T s w = some i) : ∃ hi : i < T.length, ∃ j, hasW T[i].till w = some j ∧ atL T s = some i := by
  unfold fndL at h
  cases ha : atL T s with
  | none => rw [ha] at h; cases h
  | some k =>
    obtain ⟨hk, _⟩ := atL_some ha
    rw [ha] at h
    simp only [List.getElem?_eq_getElem hk] at h
    cases hh : hasW T[k].till w with
    | none => rw [hh] at h; cases h
    | some j => rw [hh] at h; cases h; exact ⟨hk, j, hh, rfl⟩
theorem held_bad (σ : Heap) (q mid : Nat) (t : TM) (now n w : Int) (es : List JE) (name : Nm) (h : LAt σ q mid none t now es) (he : errT n now [w] ≠ 0) :
    CallOk cx 32 [.ptr q 0 0, .str name, .int .i64 w, .int .i64 n] σ (fun o s => o = .ret (.tup [.nilp, .int .i64 (errT n now [w])]) ∧ s = σ) :=
  callOk_intro (fun a w => Try.call32 a w) Try.func32 rfl Try.ntmps32 rfl fun B => by
    have hT := time_bad σ q mid t now n es (.sl true true 1 (intsA [w])) [w] h (.inr ⟨_, _, rfl⟩) (by simp) he
    have c1 : (errT n now [w] != 0) = true := by simp [he]
    refine pao [.k (.tup [.nils, .int .i64 (errT n now [w])]), .b true] rfl ?_ ?_
    · (repeat' with_reducible apply AllP_cons) <;> try exact aC
    exact S_ret ⟨_, _, rfl, trivial, rfl, rfl⟩
theorem held_ok (σ : Heap) (q mid : Nat) (t : TM) (now n w : Int) (es : List JE) (name : Nm) (h : LAt σ q mid none t now es) (hb : BdOk t es) (he : errT n now [w] = 0) :
    CallOk cx 32 [.ptr q 0 0, .str name, .int .i64 w, .int .i64 n] σ (fun o s => o = .ret (ptrL (es.map (tickE t.tries n)) (fndL (es.map (tickE t.tries n)) name w)) ∧ LAt s q mid none t n (es.map (tickE t.tries n)) ∧ QKeep σ s (OwnL q mid es) (OwnL q mid es)) :=
  callOk_intro (fun a w => Try.call32 a w) Try.func32 rfl Try.ntmps32 rfl fun B => by
    have hT := time_ok σ q mid t now n es (.sl true true 1 (intsA [w])) [w] h hb.tl (.inr ⟨_, _, rfl⟩) (by simp) hb.el he
    refine pao [] rfl ?_ ?_
    · (repeat' with_reducible apply AllP_cons) <;> try exact aC
    refine S_call rfl rfl rfl hT (fun v s hR => ?_) (fun v s hR => by obtain ⟨w, wv, hR, _⟩ := hR; cases hR)
    obtain ⟨ow, wv, hR, _, _, hL, hK⟩ := hR
    cases hR
    generalize es.map (tickE t.tries n) = T at *
    cases ha : atL T name with
    | none =>
      have hf : fndL T name w = none := by unfold fndL; rw [ha]
      rw [hf]
      refine pao [.b false, .v (.map mid 0), .v (.tup [.nilp, .bool false]), .b true] rfl ?_ ?_
      · (repeat' with_reducible apply AllP_cons) <;> try exact aC
        · exact OpSpec.loadP rfl rfl rfl rfl hL.qb rfl
        · exact OpSpec.lookG (a := .str name) none rfl rfl rfl rfl rfl hL.mb (by rw [findE0, hitE_none ha]) rfl rfl
      exact S_ret ⟨_, _, rfl, trivial, rfl, hL, hK⟩
    | some i =>
      obtain ⟨hi, hn⟩ := atL_some ha
      have hge : T[i]? = some T[i] := List.getElem?_eq_getElem hi
      have hm := List.getElem_mem hi
      have hj := hL.jb _ hm
      have ht := hL.tb _ hm
      cases hh : hasW T[i].till w with
      | none =>
        have hlk : lookW T[i].till w = .tup [.int .i64 0, .bool false] := by unfold lookW; rw [hh]
        have hf : fndL T name w = none := by unfold fndL; rw [ha]; simp only [hge, hh]
        rw [hf]
        refine pao [.b false, .v (.map mid 0), .v (.tup [.ptr T[i].jid 0 0, .bool true]), .b false, .v (.map T[i].tid 0), .v (.tup [.int .i64 0, .bool false]), .b true] rfl ?_ ?_
        · (repeat' with_reducible apply AllP_cons) <;> try exact aC
          · exact OpSpec.loadP rfl rfl rfl rfl hL.qb rfl
          · exact OpSpec.lookG (a := .str name) (z := .nilp) (some (i, .ptr T[i].jid 0 0)) rfl rfl rfl rfl rfl hL.mb (by rw [findE0, hitE_some ha hi]) rfl rfl
          · exact OpSpec.loadP rfl rfl rfl rfl hj rfl
          · rw [← hlk]; exact lookW_spec rfl rfl rfl rfl rfl rfl ht
        exact S_ret ⟨_, _, rfl, trivial, rfl, hL, hK⟩
      | some j =>
        have hlk : lookW T[i].till w = .tup [.int .i64 (T[i].till.getD j (0, 0)).2, .bool true] := by unfold lookW; rw [hh]
        have hf : fndL T name w = some i := by unfold fndL; rw [ha]; simp only [hge, hh]
        have hp : ptrL T (some i) = .tup [.ptr T[i].jid 0 0, .int .i64 0] := by unfold ptrL; simp only [hge]
        rw [hf, hp]
        refine pao [.b false, .v (.map mid 0), .v (.tup [.ptr T[i].jid 0 0, .bool true]), .b false, .v (.map T[i].tid 0), .v (.tup [.int .i64 (T[i].till.getD j (0, 0)).2, .bool true]), .b false] rfl ?_ ?_
        · (repeat' with_reducible apply AllP_cons) <;> try exact aC
          · exact OpSpec.loadP rfl rfl rfl rfl hL.qb rfl
          · exact OpSpec.lookG (a := .str name) (z := .nilp) (some (i, .ptr T[i].jid 0 0)) rfl rfl rfl rfl rfl hL.mb (by rw [findE0, hitE_some ha hi]) rfl rfl
          · exact OpSpec.loadP rfl rfl rfl rfl hj rfl
          · rw [← hlk]; exact lookW_spec rfl rfl rfl rfl rfl rfl ht
        exact S_ret ⟨_, _, rfl, trivial, rfl, hL, hK⟩
def beE (t : TM) (n w : Int) (e : JE) : JE := { e with till := match hasW e.till w with
  | some j => e.till.set j (w, n + t.last)
  | none => e.till }
def dlE (w : Int) (e : JE) : JE := { e with till := match hasW e.till w with
  | some j => e.till.eraseIdx j
  | none => e.till }
def dnE (t : TM) (w : Int) (good : Bool) (e : JE) : JE := match good with
  | true => { e with st := 3, till := [] }
  | false => freeE t.tries (dlE w e)
def actS (f : JE → JE) (t : TM) (now n w : Int) (s : Nm) (es : List JE) : Int × Int × List JE :=
  if errT n now [w] = 0 then
    match fndL (es.map (tickE t.tries n)) s w with
    | none => (5, n, es.map (tickE t.tries n))
    | some i => match (es.map (tickE t.tries n))[i]? with
      | none => (5, n, es.map (tickE t.tries n))
      | some e => (0, n, (es.map (tickE t.tries n)).set i (f e))
  else (errT n now [w], now, es)
theorem hitI_of {l : List (Int × Int)} {w : Int} {j : Nat} (h : hasW l w = some j) : hitI l w = some (j, .int .i64 (l.getD j (0, 0)).2) := by
  unfold hitI; unfold hasW at h; rw [h]; rfl
theorem Beat_ok (σ : Heap) (q mid : Nat) (t : TM) (now n w : Int) (es : List JE) (name : Nm) (h : LAt σ q mid none t now es) (hb : BdOk t es) :
    CallOk cx 14 [.ptr q 0 0, .str name, .int .i64 w, .int .i64 n] σ (fun o s => o = .ret (.int .i64 (codeS (actS (beE t n w) t now n w name es))) ∧ LAt s q mid none t (nowS (actS (beE t n w) t now n w name es)) (esS (actS (beE t n w) t now n w name es)) ∧ QKeep σ s (OwnL q mid es) (OwnL q mid es)) :=
  callOk_intro (fun a w => Try.call14 a w) Try.func14 rfl Try.ntmps14 rfl fun B => by
    by_cases he : errT n now [w] = 0
    · have hH := held_ok σ q mid t now n w es name h hb he
      obtain ⟨hn0, hn1, _⟩ := errT_n he
      unfold actS
      rw [if_pos he]
      obtain ⟨T, hTd⟩ : ∃ T, T = es.map (tickE t.tries n) := ⟨_, rfl⟩
      have hown : OwnL q mid T = OwnL q mid es := by rw [hTd]; exact own_map _ fun e => ⟨(tickE_jid _ _ e).1, (tickE_jid _ _ e).2.1⟩
      rw [← hTd] at hH ⊢
      refine pao [] rfl ?_ ?_
      · (repeat' with_reducible apply AllP_cons) <;> try exact aC
      refine S_call rfl rfl rfl hH (fun v s hR => ?_) (fun v s hR => by obtain ⟨hR, _⟩ := hR; cases hR)
      obtain ⟨hR, hL, hK⟩ := hR
      cases hR
      cases hf : fndL T name w with
      | none =>
        refine pao [.b false] rfl ?_ ?_
        · (repeat' with_reducible apply AllP_cons) <;> try exact aC
        exact S_ret ⟨_, _, rfl, trivial, rfl, hL, hK⟩
      | some i =>
        obtain ⟨hi, j, hh, _⟩ := fndL_some hf
        have hge : T[i]? = some T[i] := List.getElem?_eq_getElem hi
        have hp : ptrL T (some i) = .tup [.ptr T[i].jid 0 0, .int .i64 0] := by unfold ptrL; simp only [hge]
        rw [hp]
        simp only [hge]
        have hm := List.getElem_mem hi
        obtain ⟨e, hee⟩ : ∃ e, e = T[i] := ⟨_, rfl⟩
        rw [← hee] at hm hh ⊢
        have hj := hL.jb e hm
        have ht := hL.tb e hm
        have ap := hL.ap hm
        obtain ⟨T2, hT2⟩ : ∃ T2 : Nat × Option Box, T2 = (0, some (.map (tilK (beE t n w e).till) none)) := ⟨_, rfl⟩
        refine pao [.b true] rfl ?_ ?_
        · (repeat' with_reducible apply AllP_cons) <;> try exact aC
        refine S_drawO 12 [.map e.tid 0, .int .i64 t.last] rfl rfl rfl rfl ?_ ?_
        · (repeat' with_reducible apply AllP_cons) <;> try exact aC
          · exact OpSpec.loadP rfl rfl rfl rfl hj rfl
          · exact OpSpec.loadP rfl rfl rfl rfl hL.qb rfl
        refine pao [.f (.tup []) (fun s => s.set e.tid T2)] rfl ?_ ?_
        · (repeat' with_reducible apply AllP_cons) <;> try exact aC
          · refine OpSpec.putG (a := .int .i64 w) (v := .int .i64 (n + t.last)) (hitI e.till w) rfl rfl rfl rfl rfl ?_ ht (by rw [findI0]) ?_
            · show AV.int .i64 (IntKind.i64.wrap (n + t.last)) = _
              exact ai64i rfl ⟨by have := hb.l1; omega, by have := hb.l2; omega⟩
            · rw [hitI_of hh, hT2]
              show List.set _ _ (0, some (Box.map ((tilK e.till).set j (.int .i64 w, .int .i64 (n + t.last))) none)) = _
              have : (tilK e.till).set j (AV.int .i64 w, AV.int .i64 (n + t.last)) = tilK (beE t n w e).till := by unfold beE; simp only [hh]; unfold tilK; rw [List.map_set]
              rw [this]
        refine S_ret ⟨_, _, rfl, trivial, rfl, ?_, ?_⟩
        · have := hL.job1 hi (beE t n w e) (by rw [← hee]; rfl) (by rw [← hee]; rfl) (by rw [← hee]; rfl)
          rw [← hee] at this
          rw [show s.set e.jid (0, some (jobB (beE t n w e))) = s from set_self hj] at this
          show LAt (s.set e.tid T2) q mid none t n (T.set i (beE t n w e))
          rw [hT2]; exact this
        · exact hK.setO (by rw [← hown]; exact own_t hm) _
    · have hH := held_bad σ q mid t now n w es name h he
      unfold actS
      rw [if_neg he]
      have c1 : (errT n now [w] == 0) = false := by simp [he]
      refine pao [.k (.tup [.nilp, .int .i64 (errT n now [w])]), .b false] rfl ?_ ?_
      · (repeat' with_reducible apply AllP_cons) <;> try exact aC
      exact S_ret ⟨_, _, rfl, trivial, rfl, h, QKeep.refl⟩
theorem Done_ok (σ : Heap) (q mid : Nat) (t : TM) (now n w : Int) (es : List JE) (name : Nm) (good : Bool) (h : LAt σ q mid none t now es) (hb : BdOk t es) :
    CallOk cx 16 [.ptr q 0 0, .str name, .int .i64 w, .int .i64 n, .bool good] σ (fun o s => o = .ret (.int .i64 (codeS (actS (dnE t w good) t now n w name es))) ∧ LAt s q mid none t (nowS (actS (dnE t w good) t now n w name es)) (esS (actS (dnE t w good) t now n w name es)) ∧ QKeep σ s (OwnL q mid es) (OwnL q mid es)) :=
  callOk_intro (fun a w => Try.call16 a w) Try.func16 rfl Try.ntmps16 rfl fun B => by
    by_cases he : errT n now [w] = 0
    · have hH := held_ok σ q mid t now n w es name h hb he
      unfold actS
      rw [if_pos he]
      obtain ⟨T, hTd⟩ : ∃ T, T = es.map (tickE t.tries n) := ⟨_, rfl⟩
      have hown : OwnL q mid T = OwnL q mid es := by rw [hTd]; exact own_map _ fun e => ⟨(tickE_jid _ _ e).1, (tickE_jid _ _ e).2.1⟩
      rw [← hTd] at hH ⊢
      refine pao [] rfl ?_ ?_
      · (repeat' with_reducible apply AllP_cons) <;> try exact aC
      refine S_call rfl rfl rfl hH (fun v s hR => ?_) (fun v s hR => by obtain ⟨hR, _⟩ := hR; cases hR)
      obtain ⟨hR, hL, hK⟩ := hR
      cases hR
      cases hf : fndL T name w with
      | none =>
        refine pao [.b true] rfl ?_ ?_
        · (repeat' with_reducible apply AllP_cons) <;> try exact aC
        exact S_ret ⟨_, _, rfl, trivial, rfl, hL, hK⟩
      | some i =>
        obtain ⟨hi, j, hh, _⟩ := fndL_some hf
        have hge : T[i]? = some T[i] := List.getElem?_eq_getElem hi
        have hp : ptrL T (some i) = .tup [.ptr T[i].jid 0 0, .int .i64 0] := by unfold ptrL; simp only [hge]
        rw [hp]
        simp only [hge]
        have hm := List.getElem_mem hi
        obtain ⟨e, hee⟩ : ∃ e, e = T[i] := ⟨_, rfl⟩
        rw [← hee] at hm hh ⊢
        have hj := hL.jb e hm
        have ht := hL.tb e hm
        have ap := hL.ap hm
        cases good with
        | true =>
          obtain ⟨J1, hJ1⟩ : ∃ J1 : Nat × Option Box, J1 = (0, some (jobB (dnE t w true e))) := ⟨_, rfl⟩
          obtain ⟨T2, hT2⟩ : ∃ T2 : Nat × Option Box, T2 = (0, some (.map (tilK (dnE t w true e).till) none)) := ⟨_, rfl⟩
          have hj1 : (s.set e.jid J1)[e.jid]? = some (0, some (jobB (dnE t w true e))) := by rw [set_eq hj, hJ1]
          have ht1 : (s.set e.jid J1)[e.tid]? = some (0, some (.map (tilK e.till) none)) := by rw [set_ne ap.jt.symm]; exact ht
          refine pao [.b false, .b true, .f (.tup []) (fun s => s.set e.jid J1), .v (.map e.tid 0), .f (.tup []) (fun s => s.set e.tid T2)] rfl ?_ ?_
          · (repeat' with_reducible apply AllP_cons) <;> try exact aC
            · exact OpSpec.storeP (id := e.jid) (gT := some 65) (cs := [.int .i64 e.st, .int .i64 e.tried, .map e.tid 0]) rfl rfl rfl rfl rfl rfl hj (lble rfl) (by rw [hJ1]; rfl)
            · exact OpSpec.loadP rfl rfl rfl rfl hj1 rfl
            · exact OpSpec.clearG rfl rfl rfl ht1 (by rw [hT2]; rfl)
          refine S_ret ⟨_, _, rfl, trivial, rfl, ?_, ?_⟩
          · have := hL.job1 hi (dnE t w true e) (by rw [← hee]; rfl) (by rw [← hee]; rfl) (by rw [← hee]; rfl)
            rw [← hee] at this
            show LAt ((s.set e.jid J1).set e.tid T2) q mid none t n (T.set i (dnE t w true e))
            rw [hJ1, hT2]; exact this
          · exact (hK.setO (by rw [← hown]; exact own_j hm) _).setO (by rw [← hown]; exact own_t hm) _
        | false =>
          obtain ⟨T2, hT2⟩ : ∃ T2 : Nat × Option Box, T2 = (0, some (.map (tilK (dlE w e).till) none)) := ⟨_, rfl⟩
          obtain ⟨J2, hJ2⟩ : ∃ J2 : Nat × Option Box, J2 = (0, some (jobB (dnE t w false e))) := ⟨_, rfl⟩
          have hL2 : LAt (s.set e.tid T2) q mid none t n (T.set i (dlE w e)) := by
            have := hL.job1 hi (dlE w e) (by rw [← hee]; rfl) (by rw [← hee]; rfl) (by rw [← hee]; rfl)
            rw [← hee] at this
            rw [show s.set e.jid (0, some (jobB (dlE w e))) = s from set_self hj] at this
            rw [hT2]; exact this
          have hi2 : i < (T.set i (dlE w e)).length := by rw [List.length_set]; exact hi
          have hgs : (T.set i (dlE w e))[i] = dlE w e := List.getElem_set_self ..
          have hF := free_ok (s.set e.tid T2) q mid none t n _ hL2 i hi2
          rw [hgs] at hF
          have hF : CallOk cx 33 [.ptr q 0 0, .ptr e.jid 0 0] (s.set e.tid T2) (fun o u => o = .ret (.bool (frees (dlE w e))) ∧ u = (s.set e.tid T2).set e.jid J2) := by rw [hJ2]; exact hF
          refine pao [.b false, .b false, .v (.map e.tid 0), .f (.tup []) (fun s => s.set e.tid T2), .f (.bool (frees (dlE w e))) (fun u => u.set e.jid J2)] rfl ?_ ?_
          · (repeat' with_reducible apply AllP_cons) <;> try exact aC
            · exact OpSpec.loadP rfl rfl rfl rfl hj rfl
            · refine OpSpec.delG (a := .int .i64 w) (hitI e.till w) rfl rfl rfl rfl rfl ht (by rw [findI0]) ?_
              rw [hitI_of hh, hT2]
              show List.set _ _ (0, some (Box.map ((tilK e.till).eraseIdx j) none)) = _
              have : (tilK e.till).eraseIdx j = tilK (dlE w e).till := by unfold dlE; simp only [hh]; unfold tilK; rw [eraseIdx_map']
              rw [this]
          obtain ⟨f1, f2, f3, f4, f5⟩ := freeE_jid t.tries (dlE w e)
          refine S_ret ⟨_, _, rfl, trivial, rfl, ?_, ?_⟩
          · have := hL2.job1 hi2 (dnE t w false e) (by rw [hgs]; exact f1) (by rw [hgs]; exact f2) (by rw [hgs]; exact f3)
            rw [hgs, List.set_set] at this
            have h6 : (s.set e.tid T2)[e.tid]? = some T2 := set_eq ht
            have h7 : ((s.set e.tid T2).set (dlE w e).jid (0, some (jobB (dnE t w false e))))[e.tid]? = some (0, some (.map (tilK (dnE t w false e).till) none)) := by
              show ((s.set e.tid T2).set e.jid _)[e.tid]? = _
              rw [set_ne ap.jt.symm, h6, hT2]
              show _ = some (0, some (Box.map (tilK (freeE t.tries (dlE w e)).till) none))
              rw [f4]
            have h8 := set_self h7
            have this : LAt (((s.set e.tid T2).set (dlE w e).jid (0, some (jobB (dnE t w false e)))).set e.tid (0, some (.map (tilK (dnE t w false e).till) none))) q mid none t n (T.set i (dnE t w false e)) := this
            rw [h8] at this
            show LAt ((s.set e.tid T2).set e.jid J2) q mid none t n (T.set i (dnE t w false e))
            rw [hJ2]; exact this
          · exact (hK.setO (by rw [← hown]; exact own_t hm) _).setO (by rw [← hown]; exact own_j hm) _
    · have hH := held_bad σ q mid t now n w es name h he
      unfold actS
      rw [if_neg he]
      have c1 : (errT n now [w] != 0) = true := by simp [he]
      refine pao [.k (.tup [.nilp, .int .i64 (errT n now [w])]), .b true] rfl ?_ ?_
      · (repeat' with_reducible apply AllP_cons) <;> try exact aC
      exact S_ret ⟨_, _, rfl, trivial, rfl, h, QKeep.refl⟩
end Go.Proofs.Ytopdpbcfgjijaaa
end
section
set_option linter.unusedVariables false
set_option linter.unusedSimpArgs false
set_option maxRecDepth 20000
set_option maxHeartbeats 4000000
namespace Go.Proofs.Ytopdpbcfgjijaaa
open Go Go.Ab Go.RowKit
theorem bl_eq (x y : List UInt8) : Op.bytesLess x y = decide (x < y) := by
  induction x generalizing y with
  | nil => cases y <;> simp [Op.bytesLess]
  | cons a x ih =>
    cases y with
    | nil => simp [Op.bytesLess]
    | cons b y =>
      rw [Op.bytesLess, ih y, Bool.eq_iff_iff]
      simp only [List.cons_lt_cons_iff, Bool.or_eq_true, Bool.and_eq_true, decide_eq_true_eq, beq_iff_eq]
theorem isNaN_c (x : ByteArray) (W : World) : Calls Try.prog 48 #[.string x] W fun e w' => e = .returned (.bool false) ∧ w' = W := by
  go_enter Try.func48, Try.ntmps48
  go_wp2
  go_ret
  exact ⟨rfl, rfl⟩
theorem isNaNI_c (x : Int) (W : World) : Calls Try.prog 49 #[.int .i64 x] W fun e w' => e = .returned (.bool false) ∧ w' = W := by
  go_enter Try.func49, Try.ntmps49
  go_wp2
  go_ret
  exact ⟨by simp, rfl⟩
def cmpT (a b : List UInt8) : Int := if a < b then -1 else if b < a then 1 else 0
def cmpI (a b : Int) : Int := if a < b then -1 else if b < a then 1 else 0
theorem bt (x : ByteArray) : x.toList = x.data.toList := by
  exact ByteArray.toList_eq x
theorem gtr_run (P : Program) (w : World) (t : TypeId) (x y : ByteArray) : (binOp .gtr t (.string x) (.string y)).run P w = .ok (.bool (Op.bytesLess y.toList x.toList)) w := by
  simp only [binOp, Op.stringOp, Sem.run_pure, Result.ok.injEq, Value.bool.injEq, and_true]
  rw [bt, bt, bl_eq, bl_eq]
  congr 1
  rw [Bool.eq_iff_iff]
  simp only [Bool.not_eq_true', Bool.or_eq_false_iff, decide_eq_false_iff_not, beq_eq_false_iff_ne, decide_eq_true_eq]
  constructor
  · rintro ⟨h1, h2⟩
    rcases Std.lt_trichotomy x.data.toList y.data.toList with h | h | h
    · exact absurd h h1
    · exact absurd h h2
    · exact h
  · intro h
    exact ⟨List.lt_asymm h, fun e => by rw [e] at h; exact absurd h (List.lt_irrefl _)⟩
theorem compare_c (x y : ByteArray) (W : World) : Calls Try.prog 40 #[.string x, .string y] W fun e w' => e = .returned (.int .i64 (cmpT x.data.toList y.data.toList)) ∧ w' = W := by
  go_enter Try.func40, Try.ntmps40
  go_wp2_with (go_at_call 48; refine (isNaN_c _ _).mono ?_; rintro e w' ⟨rfl, rfl⟩)
  · go_ret
    have h1 : x.data.toList < y.data.toList := by
      have := ‹Op.bytesLess x.toList y.toList = true›
      rw [bl_eq] at this
      simpa [bt] using this
    unfold cmpT
    rw [if_pos h1]
    exact ⟨rfl, rfl⟩
  · rw [gtr_run]
    simp only [Result.andThen_ok]
    go_wp2
    · go_ret
      have h0 : ¬ x.data.toList < y.data.toList := by
        have := ‹Op.bytesLess x.toList y.toList = false›
        rw [bl_eq] at this
        simpa [bt] using this
      have h1 : y.data.toList < x.data.toList := by
        have := ‹Op.bytesLess y.toList x.toList = true›
        rw [bl_eq] at this
        simpa [bt] using this
      unfold cmpT
      rw [if_neg h0, if_pos h1]
      exact ⟨rfl, rfl⟩
    · go_ret
      have h0 : ¬ x.data.toList < y.data.toList := by
        have := ‹Op.bytesLess x.toList y.toList = false›
        rw [bl_eq] at this
        simpa [bt] using this
      have h1 : ¬ y.data.toList < x.data.toList := by
        have := ‹Op.bytesLess y.toList x.toList = false›
        rw [bl_eq] at this
        simpa [bt] using this
      unfold cmpT
      rw [if_neg h0, if_neg h1]
      exact ⟨rfl, rfl⟩
theorem compareI_c (x y : Int) (W : World) : Calls Try.prog 41 #[.int .i64 x, .int .i64 y] W fun e w' => e = .returned (.int .i64 (cmpI x y)) ∧ w' = W := by
  go_enter Try.func41, Try.ntmps41
  go_wp2_with (go_at_call 49; refine (isNaNI_c _ _).mono ?_; rintro e w' ⟨rfl, rfl⟩)
  · go_ret
    have h : cmpI x y = -1 := by unfold cmpI; rw [if_pos (by assumption)]
    rw [h]; exact ⟨rfl, rfl⟩
  · go_ret
    have h : cmpI x y = 1 := by unfold cmpI; rw [if_neg (by omega), if_pos (by assumption)]
    rw [h]; exact ⟨rfl, rfl⟩
  · go_ret
    have h : cmpI x y = 0 := by unfold cmpI; rw [if_neg (by omega), if_neg (by omega)]
    rw [h]; exact ⟨rfl, rfl⟩
theorem or_c (b o c : Nat) (r1 r2 : Int) (W : World) (h1 : W.cell? ⟨b, o, none⟩ = some (.int .i64 r1)) (h2 : W.cell? ⟨b, o + 1, none⟩ = some (.int .i64 r2)) :
    Calls Try.prog 39 #[.slice (some ⟨b, o, none⟩) 2 c] W fun e w' => e = .returned (.int .i64 (if r1 ≠ 0 then r1 else r2)) ∧ w' = W := by
  go_enter Try.func39, Try.ntmps39
  go_wp2
  go_loop [8] (fun k => ∃ j : Nat, j ≤ 2 ∧ k = .int .i64 j ∧ (1 ≤ j → r1 = 0) ∧ (2 ≤ j → r2 = 0)) (fun k => 2 - (intOf k).toNat)
  case atStart => exact ⟨0, by omega, rfl, (fun h => absurd h (by omega)), (fun h => absurd h (by omega))⟩
  case round =>
    obtain ⟨j, hj, rfl, k1, k2⟩ := hrel
    rcases (by omega : j = 0 ∨ j = 1 ∨ j = 2) with rfl | rfl | rfl
    · go_wp2
      case roundEnd =>
        have e1 : r1 = 0 := by simpa using ‹(r1 != 0) = false›
        exact ⟨⟨1, by omega, rfl, fun _ => e1, fun h => absurd h (by omega)⟩, by decide⟩
      all_goals
        go_ret
        first
          | (have e1 : r1 ≠ 0 := by simpa using ‹(r1 != 0) = true›
             rw [if_pos e1]
             exact ⟨rfl, rfl⟩)
          | (have e1 : r1 ≠ 0 := by simpa using ‹(r1 != 0) = true›
             exact ⟨rfl, rfl⟩)
          | (exfalso; simp at *; omega)
          | trace_state
    · have e1 : r1 = 0 := k1 (by omega)
      go_wp2
      case roundEnd =>
        have e1 : r2 = 0 := by simpa using ‹(r2 != 0) = false›
        exact ⟨⟨2, by omega, rfl, fun _ => k1 (by omega), fun _ => e1⟩, by decide⟩
      all_goals
        go_ret
        exact ⟨by simp [k1 (by omega)], rfl⟩
    · go_wp2
      go_ret
      exact ⟨by simp [k1 (by omega), k2 (by omega)], rfl⟩
theorem three_c (W : World) (A B C : Obj) : ((((W.alloc A).alloc B).drew).alloc C) = Go.Sort.grow (W.drewN 1) #[A, B, C] := by
  have e : (((W.heap.push A).push B).push C) = W.heap ++ #[A, B, C] := by
    apply Array.ext'
    simp
  show ({ W with heap := ((W.heap.push A).push B).push C, drawn := W.drawn + 1 } : World) = { W with heap := W.heap ++ #[A, B, C], drawn := W.drawn + 1 }
  rw [e]
structure LE where
  job : Nm
  wk : Int
  tl : Int
instance : Inhabited LE := ⟨⟨[], 0, 0⟩⟩
def encL (x : LE) : List Value := [.string ⟨x.job.toArray⟩, .int .i64 x.wk, .int .i64 x.tl]
def cmpL (x y : LE) : Int := if cmpT x.job y.job ≠ 0 then cmpT x.job y.job else cmpI x.wk y.wk
open Go.Lib Go.Sort in
theorem closL_c (f g : LE) (W : World) : Calls Try.prog 38 #[.agg (encL f).toArray, .agg (encL g).toArray] W fun e w' => e = .returned (.int .i64 (cmpL f g)) ∧ ∃ q os', w' = grow (W.drewN q) os' := by
  have hcon := fun W' => compare_c ⟨f.job.toArray⟩ ⟨g.job.toArray⟩ W'
  have hcoi := fun W' => compareI_c f.wk g.wk W'
  unfold cmpL
  generalize hr : cmpT f.job g.job = r
  generalize hri : cmpI f.wk g.wk = ri at *
  have hcon : ∀ W', Calls Try.prog 40 #[.string ⟨f.job.toArray⟩, .string ⟨g.job.toArray⟩] W' fun e w' => e = .returned (.int .i64 r) ∧ w' = W' := by
    intro W'
    have := hcon W'
    simp only [List.toList_toArray, hr] at this
    exact this
  unfold encL
  go_enter Try.func38, Try.ntmps38
  go_wp2
  generalize hW2 : (W.alloc _).alloc _ = W2
  refine wp_region_still_tail 10 (by kernel_rfl) (by kernel_rfl) ?_
  change wpStill _ _ (World.drew W2) _ _ _
  generalize hW3 : World.drew W2 = W3
  have f0 : W3.cell? ⟨W.heap.size, 0, none⟩ = some (.string ⟨f.job.toArray⟩) := by subst hW3; subst hW2; simp
  have f1 : W3.cell? ⟨W.heap.size, 1, none⟩ = some (.int .i64 f.wk) := by subst hW3; subst hW2; simp
  have g0 : W3.cell? ⟨W.heap.size + 1, 0, none⟩ = some (.string ⟨g.job.toArray⟩) := by subst hW3; subst hW2; simp
  have g1 : W3.cell? ⟨W.heap.size + 1, 1, none⟩ = some (.int .i64 g.wk) := by subst hW3; subst hW2; simp
  simp only [List.take_succ_cons, List.take_zero, List.drop_succ_cons, List.drop_zero]
  still_step
  still_step
  still_step
  still_step
  still_call (hcon _)
  still_step
  still_step
  still_step
  still_step
  still_call (hcoi _)
  refine wpStill_nil ?_
  clear f0 f1 g0 g1 hr hri
  first
    | change wpList _ _ _ _ _ W3
    | (change wpList _ _ _ _ _ (World.drew W2); rw [hW3])
  go_wp2_with (go_at_call 39; refine (or_c _ _ _ r ri _ (by simp) (by simp)).mono ?_; rintro e w' ⟨rfl, rfl⟩)
  all_goals
    go_ret
    subst hW3
    subst hW2
    exact ⟨rfl, 1, _, three_c W _ _ _⟩
end Go.Proofs.Ytopdpbcfgjijaaa
end
section
set_option linter.unusedVariables false
set_option linter.unusedSimpArgs false
set_option maxRecDepth 20000
namespace Go.Proofs.Ytopdpbcfgjijaaa
open Go Go.Ab Go.Shelf Go.RowKit Go.Lib Go.Sort
def lay_sortl_ren : Go.Shelf.Ren := ⟨fun | 6 => 37 | 15 => 47 | 14 => 46 | 28 => 61 | 29 => 62 | 20 => 53 | 21 => 54 | 22 => 55 | 23 => 56 | 24 => 57 | 25 => 58 | 26 => 59 | 27 => 60 | 46 => 76 | 47 => 77 | 48 => 78 | 49 => 79 | 50 => 80 | 57 => 85 | n => n, fun | 22 => 34 | 24 => 52 | 25 => 78 | 3 => 3 | 39 => 84 | 0 => 0 | 53 => 96 | 55 => 98 | 4 => 4 | 46 => 90 | 45 => 89 | 50 => 67 | 5 => 5 | 9 => 9 | 66 => 108 | 70 => 112 | 76 => 116 | 77 => 47 | n => n, fun | n => n⟩
theorem lay_sortl : Go.Proofs.SlLaysF0.n6 Try.prog lay_sortl_ren := {
  mixed := by kernel_rfl
  f6 := ⟨Try.f37.name, by decide, Try.func37.trans (congrArg some (by kernel_rfl))⟩
  f14 := ⟨Try.f46.name, by decide, Try.func46.trans (congrArg some (by kernel_rfl))⟩
  f15 := Try.func47.trans (congrArg some (by kernel_rfl))
  f20 := ⟨Try.f53.name, by decide, Try.func53.trans (congrArg some (by kernel_rfl))⟩
  f21 := ⟨Try.f54.name, by decide, Try.func54.trans (congrArg some (by kernel_rfl))⟩
  f22 := ⟨Try.f55.name, by decide, Try.func55.trans (congrArg some (by kernel_rfl))⟩
  f23 := ⟨Try.f56.name, by decide, Try.func56.trans (congrArg some (by kernel_rfl))⟩
  f24 := ⟨Try.f57.name, by decide, Try.func57.trans (congrArg some (by kernel_rfl))⟩
  f25 := ⟨Try.f58.name, by decide, Try.func58.trans (congrArg some (by kernel_rfl))⟩
  f26 := ⟨Try.f59.name, by decide, Try.func59.trans (congrArg some (by kernel_rfl))⟩
  f27 := ⟨Try.f60.name, by decide, Try.func60.trans (congrArg some (by kernel_rfl))⟩
  f28 := Try.func61.trans (congrArg some (by kernel_rfl))
  f29 := Try.func62.trans (congrArg some (by kernel_rfl))
  f46 := ⟨Try.f76.name, by decide, Try.func76.trans (congrArg some (by kernel_rfl))⟩
  f47 := Try.func77.trans (congrArg some (by kernel_rfl))
  f48 := Try.func78.trans (congrArg some (by kernel_rfl))
  f49 := ⟨Try.f79.name, by decide, Try.func79.trans (congrArg some (by kernel_rfl))⟩
  f50 := ⟨Try.f80.name, by decide, Try.func80.trans (congrArg some (by kernel_rfl))⟩
  f57 := ⟨Try.f85.name, by decide, Try.func85.trans (congrArg some (by kernel_rfl))⟩
  t0 := Try.underlying0
  a0 := Try.isAgg0
  z0 := Try.sizeOf0
  v0 := Try.zeroValue0
  t3 := Try.underlying3
  a3 := Try.isAgg3
  z3 := Try.sizeOf3
  v3 := Try.zeroValue3
  t4 := Try.underlying4
  a4 := Try.isAgg4
  z4 := Try.sizeOf4
  v4 := Try.zeroValue4
  t5 := Try.underlying5
  a5 := Try.isAgg5
  z5 := Try.sizeOf5
  v5 := Try.zeroValue5
  t9 := Try.underlying9
  a9 := Try.isAgg9
  z9 := Try.sizeOf9
  v9 := Try.zeroValue9
  t22 := Try.underlying34
  a22 := Try.isAgg34
  z22 := Try.sizeOf34
  v22 := Try.zeroValue34
  t25 := Try.underlying78
  a25 := Try.isAgg78
  z25 := Try.sizeOf78
  v25 := Try.zeroValue78
  t39 := Try.underlying84
  a39 := Try.isAgg84
  z39 := Try.sizeOf84
  v39 := Try.zeroValue84
  t45 := Try.underlying89
  a45 := Try.isAgg89
  z45 := Try.sizeOf89
  v45 := Try.zeroValue89
  t46 := Try.underlying90
  a46 := Try.isAgg90
  z46 := Try.sizeOf90
  v46 := Try.zeroValue90
  t50 := Try.underlying67
  a50 := Try.isAgg67
  z50 := Try.sizeOf67
  v50 := Try.zeroValue67
  t53 := Try.underlying96
  a53 := Try.isAgg96
  z53 := Try.sizeOf96
  v53 := Try.zeroValue96
  t55 := Try.underlying98
  a55 := Try.isAgg98
  z55 := Try.sizeOf98
  v55 := Try.zeroValue98
  t66 := Try.underlying108
  a66 := Try.isAgg108
  z66 := Try.sizeOf108
  v66 := Try.zeroValue108
  t70 := Try.underlying112
  a70 := Try.isAgg112
  z70 := Try.sizeOf112
  v70 := Try.zeroValue112
  t76 := Try.underlying116
  a76 := Try.isAgg116
  z76 := Try.sizeOf116
  v76 := Try.zeroValue116
  t77 := Try.underlying47
  a77 := Try.isAgg47
  z77 := Try.sizeOf47
  v77 := Try.zeroValue47 }
end Go.Proofs.Ytopdpbcfgjijaaa
end
section
set_option linter.unusedVariables false
set_option linter.unusedSimpArgs false
set_option maxRecDepth 20000
set_option maxHeartbeats 4000000
namespace Go.Proofs.Ytopdpbcfgjijaaa
open Go Go.Ab Go.Shelf Go.RowKit Go.Lib Go.Sort
def LE.cells (x : LE) : List AV := [.str x.job, .int .i64 x.wk, .int .i64 x.tl]
def lsC (l : List LE) : List AV := l.flatMap LE.cells
theorem lsC_len (l : List LE) : (lsC l).length = l.length * 3 := by
  unfold lsC
  induction l with
  | nil => rfl
  | cons f g ih => rw [List.flatMap_cons, List.length_append, ih, List.length_cons]; show 3 + _ = _; omega
theorem lsC_one (g : List LE) : ∀ x ∈ lsC g, x.one = true := by
  intro x hx
  obtain ⟨y, hy, hx⟩ := List.mem_flatMap.1 hx
  have hx : x ∈ [AV.str y.job, .int .i64 y.wk, .int .i64 y.tl] := hx
  simp at hx; rcases hx with rfl | rfl | rfl <;> rfl
theorem lsC_at : ∀ {l : List LE} {i : Nat} (h : i < l.length), ∃ r, (lsC l).drop (i * 3) = .str l[i].job :: .int .i64 l[i].wk :: .int .i64 l[i].tl :: r
  | f :: l, 0, h => ⟨lsC l, rfl⟩
  | f :: l, i + 1, h => by
    obtain ⟨r, hr⟩ := lsC_at (l := l) (i := i) (by simpa using h)
    refine ⟨r, ?_⟩
    have e : lsC (f :: l) = [.str f.job, .int .i64 f.wk, .int .i64 f.tl] ++ lsC l := rfl
    have e2 : (i + 1) * 3 = ([.str f.job, .int .i64 f.wk, .int .i64 f.tl] : List AV).length + i * 3 := by simp; omega
    rw [e, e2, List.drop_append, Nat.add_sub_cancel_left, hr, List.drop_eq_nil_of_le (by omega)]
    rfl
def leK (f : LE) (k : Nat) : AV := match k with | 0 => .str f.job | 1 => .int .i64 f.wk | _ => .int .i64 f.tl
theorem leC_get {l : List LE} {i : Nat} (h : i < l.length * 3) : (lsC l)[i]? = some (leK (l[i / 3]'(by omega)) (i % 3)) := by
  have hq : i / 3 < l.length := by omega
  obtain ⟨r, hr⟩ := lsC_at hq
  have e : i = i / 3 * 3 + i % 3 := by omega
  have h3 : i % 3 < 3 := Nat.mod_lt _ (by decide)
  conv => lhs; rw [e]
  rw [← List.getElem?_drop, hr]
  generalize i % 3 = k at h3
  match k, h3 with
  | 0, _ => rfl
  | 1, _ => rfl
  | 2, _ => rfl
theorem leF_get {l : List LE} {i : Nat} (h : i < l.length * 3) : (flatK encL 3 l.toArray)[i]! = (encL (l[i / 3]'(by omega)))[i % 3]! := by
  rw [get_flatK encL 3 l.toArray i (by simpa using h)]
  have hq : i / 3 < l.toArray.size := by simp; omega
  rw [getElem!_pos l.toArray (i / 3) hq]
  simp
theorem leE_rel (r : Rl) (w : World) (f : LE) (k : Nat) (h : k < 3) : VRel r w (encL f)[k]! (leK f k) := by
  match k, h with
  | 0, _ => exact .str (by simp)
  | 1, _ => exact .int
  | 2, _ => exact .int
theorem leE_eq {r : Rl} {w : World} {f : LE} {k : Nat} {v : Value} (h : k < 3) (hv : VRel r w v (leK f k)) : v = (encL f)[k]! := by
  match k, h with
  | 0, _ =>
    have hv : VRel r w v (.str f.job) := hv
    cases hv with
    | str hs => show Value.string _ = .string _; rw [← hs]
  | 1, _ =>
    have hv : VRel r w v (.int .i64 f.wk) := hv
    cases hv; rfl
  | 2, _ =>
    have hv : VRel r w v (.int .i64 f.tl) := hv
    cases hv; rfl
def ltL (x y : LE) : Prop := x.job < y.job ∨ (x.job = y.job ∧ x.wk < y.wk)
instance (x y : LE) : Decidable (ltL x y) := by unfold ltL; infer_instance
theorem ltLO (f g : LE) : ltOf cmpL f g = decide (ltL f g) := by
  unfold ltOf cmpL cmpT cmpI
  rw [Bool.eq_iff_iff]
  simp only [decide_eq_true_eq]
  unfold ltL
  rcases Std.lt_trichotomy f.job g.job with h | h | h
  · simp [h]
  · rw [h]
    have h0 : ¬ g.job < g.job := List.lt_irrefl _
    by_cases h1 : f.wk < g.wk
    · simp [h0, h1]
    · by_cases h2 : g.wk < f.wk <;> simp [h0, h1, h2]
  · have h0 : ¬ f.job < g.job := List.lt_asymm h
    have h1 : f.job ≠ g.job := fun e => by rw [e] at h; exact List.lt_irrefl _ h
    simp [h, h0, h1]
theorem ltL_irr (x : LE) : ¬ ltL x x := fun h => by
  rcases h with h | ⟨_, h⟩
  · exact List.lt_irrefl _ h
  · omega
theorem ltL_trans {x y z : LE} (h1 : ltL x y) (h2 : ltL y z) : ltL x z := by
  rcases h1 with h1 | ⟨e1, h1⟩ <;> rcases h2 with h2 | ⟨e2, h2⟩
  · exact .inl (List.lt_trans h1 h2)
  · exact .inl (e2 ▸ h1)
  · exact .inl (e1 ▸ h2)
  · exact .inr ⟨e1.trans e2, by omega⟩
theorem ltL_tot {x y : LE} (hne : x.job ≠ y.job ∨ x.wk ≠ y.wk) (h : ¬ ltL y x) : ltL x y := by
  rcases Std.lt_trichotomy x.job y.job with h1 | h1 | h1
  · exact .inl h1
  · rcases hne with hne | hne
    · exact absurd h1 hne
    · refine .inr ⟨h1, ?_⟩
      by_cases h2 : x.wk < y.wk
      · exact h2
      · exact absurd (.inr ⟨h1.symm, by omega⟩) h
  · exact absurd (.inl h1) h
theorem swoL : SWO (ltOf cmpL) where
  irrefl x := by rw [ltLO]; exact decide_eq_false (ltL_irr x)
  trans x y z h1 h2 := by
    rw [ltLO] at *
    simp only [decide_eq_true_eq] at *
    exact ltL_trans h1 h2
  ntrans x y z h1 h2 := by
    rw [ltLO] at *
    simp only [decide_eq_false_iff_not] at *
    intro h
    by_cases hk : y.job ≠ z.job ∨ y.wk ≠ z.wk
    · exact h1 (ltL_trans h (by
        have := ltL_tot (x := z) (y := y) (by rcases hk with hk | hk; exact .inl hk.symm; exact .inr hk.symm) h2
        exact this))
    · have e1 : y.job = z.job := by
        by_cases e : y.job = z.job
        · exact e
        · exact absurd (.inl e) hk
      have e2 : y.wk = z.wk := by
        by_cases e : y.wk = z.wk
        · exact e
        · exact absurd (.inr e) hk
      refine h1 ?_
      unfold ltL at h ⊢
      rw [e1, e2]; exact h
theorem cmpLaysL (blk off size : Nat) (w : World) : CmpLays Try.prog 38 #[] encL 3 cmpL blk off size w :=
  fun _ _ _ _ f g => closL_c f g _
theorem sort_cL (blk off cap : Nat) (d : Array LE) (w : World) (hH : HoldsK encL 3 w blk off d) (hblk : blk < w.heap.size) (hsz : d.size < 4611686018427387904) :
    Calls Try.prog 37 #[.slice (some ⟨blk, off, none⟩) d.size cap, .func (.func 38) #[] #[]] w fun e w' =>
      e = .returned (.tuple #[]) ∧ ∃ d' n os, PermIn 0 d.size d d' ∧ SortedIn (ltOf cmpL) 0 d.size d' ∧ w' = sortWorldK encL 3 w blk off n d' os :=
  AnyQ.slices_SortFunc lay_sortl 3 Try.isAgg52 Try.sizeOf52 encL (fun _ => rfl) (fun x v hv => by simp [encL] at hv; rcases hv with rfl | rfl | rfl <;> rfl) cmpL swoL 38 #[] blk off cap d w (fun a w => Try.call38 a w) (cmpLaysL blk off d.size w) hH hblk hsz
theorem SortL_ok (o : List LE) (hne : 0 < o.length) (hlen : o.length ≤ 1000000) (hnd : (o.map fun x => (x.job, x.wk)).Nodup) {σ : Heap} {id ver : Nat} (hσ : σ[id]? = some (ver, some (.cells (lsC o) ⟨false, none⟩))) :
    CallOk cx 37 [.ms id ver 0 o.length 3 false, .func (.func 38) [] []] σ (fun e s => e = .ret (.tup []) ∧ ∃ o2, o2.Perm o ∧ o2.Pairwise ltL ∧ s = σ.set id (ver, some (.cells (lsC o2) ⟨false, none⟩))) := by
  refine ⟨fun a w => Try.call37 a w, fun r w vs hi hv => ?_⟩
  obtain ⟨hs, hv⟩ := hv
  have g0 := hv 0 (by simp)
  have g1 := hv 1 (by simp)
  have hvs : vs = #[vs.getD 0 undef, vs.getD 1 undef] := by
    have hs : vs.size = 2 := hs
    refine Array.ext (by simp [hs]) fun j h1 h2 => ?_
    match j, h1 with
    | 0, h1 => simp [Array.getD, h1]
    | 1, h1 => simp [Array.getD, h1]
    | j + 2, h1 => omega
  rw [hvs]
  generalize vs.getD 0 undef = a at g0
  generalize vs.getD 1 undef = b at g1
  have g0 : VRel r w a (.ms id ver 0 o.length 3 false) := g0
  have g1 : VRel r w b (.func (.func 38) [] []) := g1
  cases g1 with
  | func f1 hfx f2 hbx0 =>
  rename_i first captured
  have hf1 : first = #[] := Array.eq_empty_of_size_eq_zero f1
  have hf2 : captured = #[] := Array.eq_empty_of_size_eq_zero f2
  subst hf1; subst hf2
  generalize hn : o.length = n at g0
  cases g0 with
  | ms0 => omega
  | ms hρ hcap hle hff =>
  rename_i blk off cap
  rcases hi.box id ver _ hσ with ⟨blk', off', hρ', hbx⟩ | ⟨_, ro, h⟩
  case inr =>
    have h := Box.cells.inj h
    have := lsC_len o
    rw [h.1] at this; simp at this; omega
  rw [hρ] at hρ'
  obtain ⟨rfl, rfl⟩ : blk = blk' ∧ off = off' := by cases hρ'; exact ⟨rfl, rfl⟩
  obtain ⟨c, t, lo, hi0, q1, q2, q3, q4, q5⟩ := hbx
  have hcl := lsC_len o
  have hbs : blk < w.heap.size := (hi.lt _ _ _ _ hρ).2
  have hcell : ∀ j, j < o.length * 3 → c[off + j]? = some (flatK encL 3 o.toArray)[j]! := by
    intro j hj
    obtain ⟨v, k1, k2⟩ := q2 j (by omega)
    have hg := leC_get hj
    rw [List.getElem?_eq_getElem (by omega)] at hg
    rw [Option.some.inj hg] at k2
    rw [k1, leF_get hj, leE_eq (Nat.mod_lt _ (by decide)) k2]
  have hH : HoldsK encL 3 w blk off o.toArray := by
    intro j hj
    have hj : j < o.length * 3 := by simpa using hj
    refine ⟨by simp only [World.cell?, q1]; exact hcell j hj, ?_⟩
    have hjc : off + j < c.size := by
      rcases Nat.lt_or_ge (off + j) c.size with h | h
      · exact h
      · have := hcell j hj
        rw [Array.getElem?_eq_none h] at this; cases this
    simp only [World.frozen?, q1]
    cases hz : (decide (lo ≤ off + j) && decide (off + j < hi0)) with
    | false => rfl
    | true =>
      simp only [Bool.and_eq_true, decide_eq_true_eq] at hz
      have := (q4 _ hz.1 hz.2 hjc).1
      cases this
  have hc := sort_cL blk off cap o.toArray w hH hbs (by simp; omega)
  rw [show o.toArray.size = n by simpa using hn] at hc
  refine hc.mono ?_
  rintro e w' ⟨rfl, d', m, os, hp, hsd, rfl⟩
  obtain ⟨hd1, _, hd3⟩ := hp
  have hd1 : d'.size = n := by rw [hd1]; simpa using hn
  have hperm : d'.toList.Perm o := by
    have e1 : d'.extract 0 n = d' := by rw [← hd1]; simp
    have e2 : o.toArray.extract 0 n = o.toArray := by rw [← hn]; simp
    rw [e1, e2] at hd3
    simpa using hd3
  have hpw : d'.toList.Pairwise ltL := by
    rw [List.pairwise_iff_getElem]
    intro i j h1 h2 hij
    have hne : (d'.toList[i]).job ≠ (d'.toList[j]).job ∨ (d'.toList[i]).wk ≠ (d'.toList[j]).wk := by
      have hnd2 : (d'.toList.map fun x => (x.job, x.wk)).Nodup := (hperm.map _).nodup_iff.2 hnd
      by_cases e1 : (d'.toList[i]).job = (d'.toList[j]).job
      · by_cases e2 : (d'.toList[i]).wk = (d'.toList[j]).wk
        · have := nodup_inj hnd2 (i := i) (k := j) (by simpa using h1) (by simpa using h2) (by simp only [List.getElem_map, e1, e2])
          omega
        · exact .inr e2
      · exact .inl e1
    rw [Array.length_toList] at h1 h2
    have h3 := hsd i j (Nat.zero_le _) hij (by omega)
    rw [ltLO, getElem!_pos d' i h1, getElem!_pos d' j h2] at h3
    simp only [decide_eq_false_iff_not] at h3
    rw [Array.getElem_toList, Array.getElem_toList] at hne ⊢
    exact ltL_tot hne h3
  obtain ⟨o2, ho2⟩ : ∃ o2, o2 = d'.toList := ⟨_, rfl⟩
  rw [← ho2] at hperm hpw
  have hd' : d' = o2.toArray := by rw [ho2]
  have hln : o2.length = n := by rw [hperm.length_eq]; exact hn
  have hF : (flatK encL 3 d').size = n * 3 := by rw [size_flatK, hd1]
  have hheap : ∀ k, k < w.heap.size → (sortWorldK encL 3 w blk off m d' os).heap[k]? = if blk = k then some (Obj.cells (putCells _root_.id off (flatK encL 3 d') c) t (lo, hi0)) else w.heap[k]? := by
    intro k hk
    show ((w.heap.modify blk (onCells (putCells _root_.id off (flatK encL 3 d')))) ++ os)[k]? = _
    rw [Array.getElem?_append_left (by simpa using hk), Array.getElem?_modify]
    by_cases e : blk = k
    · subst e
      rw [if_pos rfl, if_pos rfl, q1]; rfl
    · rw [if_neg e, if_neg e]
  have hupd := hi.update (σ' := σ.set id (ver, some (.cells (lsC o2) ⟨false, none⟩))) (id := id) (ver := ver) (b := blk) (o := off) (x := .cells (lsC o2) ⟨false, none⟩) (w' := sortWorldK encL 3 w blk off m d' os)
    (by
      have : id < σ.length := by
        rcases Nat.lt_or_ge id σ.length with h | h
        · exact h
        · rw [List.getElem?_eq_none h] at hσ; cases hσ
      simp [this]) (fun j hj => by rw [List.getElem?_set, if_neg (Ne.symm hj)]) (fun c2 y hy => by rw [hσ] at hy; cases hy; exact .inr ⟨rfl, hρ⟩) (.inr ⟨ver, _, off, hσ, hρ⟩)
    (fun k hk hkb => by rw [hheap k hk, if_neg (Ne.symm hkb)]) (by
      show w.heap.size ≤ ((w.heap.modify blk (onCells (putCells _root_.id off (flatK encL 3 d')))) ++ os).size
      simp) (fun c2 t2 f2 hc2 => by
        rw [q1] at hc2; cases hc2
        exact ⟨_, _, by rw [hheap blk hbs, if_pos rfl], by simp [putCells]⟩) rfl rfl rfl
    (fun g => by
      refine ⟨_, t, lo, hi0, by rw [hheap blk hbs, if_pos rfl], fun i hil => ?_, lsC_one _, fun i h1 h2 h3 => ?_, fun T h => by cases h⟩
      · have hil' : i < o2.length * 3 := by rw [lsC_len] at hil; exact hil
        have hg := leC_get hil'
        rw [List.getElem?_eq_getElem hil] at hg
        rw [Option.some.inj hg]
        refine ⟨(flatK encL 3 o2.toArray)[i]!, ?_, by rw [leF_get hil']; exact leE_rel _ _ _ _ (Nat.mod_lt _ (by decide))⟩
        have hci : off + i < c.size := by
          have := hcell i (by omega)
          rcases Nat.lt_or_ge (off + i) c.size with h | h
          · exact h
          · rw [Array.getElem?_eq_none h] at this; cases this
        rw [hd']
        unfold putCells
        rw [Array.getElem?_mapIdx, Array.getElem?_eq_getElem hci]
        show some (if off ≤ off + i ∧ off + i < off + (flatK encL 3 o2.toArray).size then _root_.id ((flatK encL 3 o2.toArray)[off + i - off]!) else _) = _
        rw [if_pos ⟨by omega, by rw [size_flatK]; simp; omega⟩, Nat.add_sub_cancel_left]; rfl
      · have h3 : i < c.size := by simpa [putCells] using h3
        have := (q4 i h1 h2 h3).1
        cases this)
  exact ⟨.ret (.tup []), _, _, ⟨rfl, o2, hperm, hpw, rfl⟩, .tup rfl (fun i h => absurd h (by simp)), hupd.1, hupd.2⟩
theorem Len0_ok : Calc cx 62 [.int .u64 0] (.int .i64 0) :=
  pure_intro (fun a w => Try.call62 a w) Try.func62 rfl Try.ntmps62 rfl .int fun B => by
    refine pa [.b false, .b false, .b false] rfl ?_ ?_
    · (repeat' with_reducible apply AllP_cons) <;> try exact aC
      all_goals decide +kernel
    refine S_retc .int rfl trivial ?_
    rfl
theorem LenU0_ok : Calc cx 47 [.int .u64 0] (.int .i64 0) :=
  pure_intro (fun a w => Try.call47 a w) Try.func47 rfl Try.ntmps47 rfl .int fun B => by
    refine pa [.b false, .v (.int .i64 0)] rfl ?_ ?_
    · (repeat' with_reducible apply AllP_cons) <;> try exact aC
      · exact ⟨_, Len0_ok, .cons (.refl .int) (.nil _)⟩
    exact S_retc .int rfl trivial rfl
theorem Ins0_okL (σ : Heap) (id v : Nat) : CallOk cx 53 [.ms id v 0 0 3 false, .int .i64 0, .int .i64 0, .func (.func 38) [] []] σ (fun o s => o = .ret (.tup []) ∧ s = σ) :=
  callOk_intro (fun a w => Try.call53 a w) Try.func53 rfl Try.ntmps53 rfl fun B => by
    refine pas [] rfl ?_ ?_
    · (repeat' with_reducible apply AllP_cons) <;> try exact aC
    refine S_while (α := Unit) (fun _ => [(2, .int .i64 0), (8, .int .i64 1)]) (fun _ => σ) (fun _ => True) (fun _ => 0) () trivial (.cons rfl (.cons rfl (.nil _))) rfl ?_
    rintro ⟨⟩ _
    refine pas [.b false] rfl ?_ ?_
    · (repeat' with_reducible apply AllP_cons) <;> try exact aC
    exact S_nil ⟨_, _, rfl, trivial, rfl, rfl⟩
theorem Pdq0_okL (σ : Heap) (id v : Nat) : CallOk cx 46 [.ms id v 0 0 3 false, .int .i64 0, .int .i64 0, .int .i64 0, .func (.func 38) [] []] σ (fun o s => o = .ret (.tup []) ∧ s = σ) :=
  callOk_intro (fun a w => Try.call46 a w) Try.func46 rfl Try.ntmps46 rfl fun B => by
    refine pas [] rfl ?_ ?_
    · (repeat' with_reducible apply AllP_cons) <;> try exact aC
    refine S_while (α := Unit) (fun _ => [(0, .ms id v 0 0 3 false), (1, .int .i64 0), (2, .int .i64 0), (4, .func (.func 38) [] [])]) (fun _ => σ) (fun _ => True) (fun _ => 0) () trivial (.cons rfl (.cons rfl (.cons rfl (.cons rfl (.nil _))))) rfl ?_
    rintro ⟨⟩ _
    refine pa [.b true, .k (.tup [])] rfl ?_ ?_
    · (repeat' with_reducible apply AllP_cons) <;> try exact aC
      · exact Ins0_okL σ id v
    exact S_ret ⟨_, _, rfl, trivial, rfl, rfl⟩
theorem SortL_any (o : List LE) (hlen : o.length ≤ 1000000) (hnd : (o.map fun x => (x.job, x.wk)).Nodup) {σ : Heap} {id ver : Nat} (hσ : σ[id]? = some (ver, some (.cells (lsC o) ⟨false, none⟩))) :
    CallOk cx 37 [.ms id ver 0 o.length 3 false, .func (.func 38) [] []] σ (fun e s => e = .ret (.tup []) ∧ ∃ o2, o2.Perm o ∧ o2.Pairwise ltL ∧ s = σ.set id (ver, some (.cells (lsC o2) ⟨false, none⟩))) := by
  by_cases h0 : o = []
  · subst h0
    have hset : σ.set id (ver, some (.cells (lsC []) ⟨false, none⟩)) = σ := by
      refine List.ext_getElem? fun i => ?_
      rw [List.getElem?_set]
      split
      · rename_i h; subst h
        split
        · exact hσ.symm
        · rename_i h; rw [List.getElem?_eq_none (by omega)] at hσ; cases hσ
      · rfl
    exact callOk_intro (fun a w => Try.call37 a w) Try.func37 rfl Try.ntmps37 rfl fun B => by
      refine pas [.v (.int .i64 0), .k (.tup [])] rfl ?_ ?_
      · (repeat' with_reducible apply AllP_cons) <;> try exact aC
        · exact ⟨_, LenU0_ok, .cons (.refl .int) (.nil _)⟩
        · exact Pdq0_okL _ _ _
      exact S_nil ⟨_, _, rfl, trivial, rfl, [], .refl _, .nil, hset.symm⟩
  · exact SortL_ok o (List.length_pos_iff.2 h0) hlen hnd hσ
end Go.Proofs.Ytopdpbcfgjijaaa
end
section
set_option linter.unusedVariables false
set_option linter.unusedSimpArgs false
set_option maxRecDepth 20000
set_option maxHeartbeats 4000000
namespace Go.Proofs.Ytopdpbcfgjijaaa
open Go Go.Ab
def leP (s : Nm) (p : Int × Int) : LE := ⟨s, p.1, p.2⟩
def leJ (e : JE) : List LE := e.till.map (leP e.name)
def allL (es : List JE) : List LE := es.flatMap leJ
theorem lkG {α : Type} : ∀ (bs : List Nat) (es : List α), bs.length = es.length → bs.Nodup → ∀ i (h1 : i < bs.length) (h2 : i < es.length), (bs.zip es).lookup bs[i] = some es[i]
  | b :: bs, e :: es, hl, hn, 0, _, _ => by simp [List.zip_cons_cons, List.lookup_cons]
  | b :: bs, e :: es, hl, hn, i + 1, h1, h2 => by
    obtain ⟨hb, hn⟩ := List.nodup_cons.1 hn
    have hi : i < bs.length := Nat.lt_of_succ_lt_succ h1
    have hne : (bs[i] == b) = false := by
      simp only [beq_eq_false_iff_ne, ne_eq]
      rintro rfl
      exact hb (List.getElem_mem hi)
    rw [List.zip_cons_cons, List.lookup_cons, List.getElem_cons_succ, List.getElem_cons_succ, hne]
    exact lkG bs es (by simpa using hl) hn i hi (Nat.lt_of_succ_lt_succ h2)
def gotL {α : Type} (bs : List Nat) (es : List α) (f : α → List LE) (b : Nat) : List LE := match (bs.zip es).lookup b with
  | some e => f e
  | none => []
theorem fmcL {α β : Type} {f g : α → List β} : ∀ {l : List α}, (∀ x ∈ l, f x = g x) → l.flatMap f = l.flatMap g
  | [], _ => rfl
  | x :: r, h => by rw [List.flatMap_cons, List.flatMap_cons, h x (List.mem_cons_self ..), fmcL fun y hy => h y (List.mem_cons_of_mem _ hy)]
theorem gotL_all {α : Type} (f : α → List LE) : ∀ (bs : List Nat) (es : List α), bs.length = es.length → bs.Nodup → bs.flatMap (gotL bs es f) = es.flatMap f
  | [], [], _, _ => rfl
  | [], e :: es, hl, _ => by cases hl
  | b :: bs, [], hl, _ => by cases hl
  | b :: bs, e :: es, hl, hn => by
    obtain ⟨hb, hn⟩ := List.nodup_cons.1 hn
    have ih := gotL_all f bs es (by simpa using hl) hn
    have hc : bs.flatMap (gotL (b :: bs) (e :: es) f) = bs.flatMap (gotL bs es f) := by
      refine fmcL fun x hx => ?_
      have hne : (x == b) = false := by
        simp only [beq_eq_false_iff_ne, ne_eq]
        rintro rfl
        exact hb hx
      unfold gotL
      rw [List.zip_cons_cons, List.lookup_cons, hne]
    have h0 : gotL (b :: bs) (e :: es) f b = f e := by unfold gotL; simp [List.zip_cons_cons, List.lookup_cons]
    rw [List.flatMap_cons, hc, ih, List.flatMap_cons, h0]
theorem allL_nd : ∀ {es : List JE}, (es.map JE.name).Nodup → TilOk es → ((allL es).map fun x => (x.job, x.wk)).Nodup
  | [], _, _ => .nil
  | e :: es, hn, ht => by
    obtain ⟨h1, h2⟩ := List.nodup_cons.1 (show (e.name :: es.map JE.name).Nodup from hn)
    have ih := allL_nd h2 fun x hx => ht x (List.mem_cons_of_mem _ hx)
    have e1 : allL (e :: es) = leJ e ++ allL es := rfl
    rw [e1, List.map_append]
    refine List.nodup_append.2 ⟨?_, ih, fun x hx y hy => ?_⟩
    · have hk := ht e (List.mem_cons_self ..)
      unfold leJ
      rw [List.map_map]
      have : ((fun x : LE => (x.job, x.wk)) ∘ leP e.name) = (fun w : Int => (e.name, w)) ∘ Prod.fst := rfl
      rw [this, ← List.map_map]
      exact List.Pairwise.map _ (fun a b hab => by simpa using hab) hk
    · rintro rfl
      obtain ⟨a, ha, rfl⟩ := List.mem_map.1 hx
      obtain ⟨b, hb, hab⟩ := List.mem_map.1 hy
      obtain ⟨p, _, rfl⟩ := List.mem_map.1 ha
      obtain ⟨x, hx', hb⟩ := List.mem_flatMap.1 hb
      obtain ⟨p', _, rfl⟩ := List.mem_map.1 hb
      have : x.name = e.name := congrArg Prod.fst hab
      exact h1 (this ▸ List.mem_map_of_mem hx')
theorem lsC_snoc (l : List LE) (x : LE) : lsC l ++ x.cells = lsC (l ++ [x]) := by unfold lsC; rw [List.flatMap_append]; simp
structure LvOk (es : List JE) : Prop where
  el : es.length ≤ 1000
  tl : TilOk es
  tn : ∀ e ∈ es, e.till.length ≤ 1000
  nn : (es.map JE.name).Nodup
theorem Leases_ok (σ : Heap) (q mid : Nat) (t : TM) (now : Int) (es : List JE) (h : LAt σ q mid none t now es) (hb : LvOk es) :
    CallOk cx 23 [.ptr q 0 0] σ (fun o s => ∃ w wv out, o = .ret (.ms w wv 0 out.length 3 false) ∧ σ.length ≤ w ∧ s[w]? = some (wv, some (.cells (lsC out) ⟨false, none⟩)) ∧ out.Perm (allL es) ∧ out.Pairwise ltL ∧ LAt s q mid none t now es ∧ QKeep σ s (OwnL q mid es) (OwnL q mid es)) :=
  callOk_intro (fun a w => Try.call23 a w) Try.func23 rfl Try.ntmps23 rfl fun B => by
    refine pao [.v (.map mid 0), .s] rfl ?_ ?_
    · (repeat' with_reducible apply AllP_cons) <;> try exact aC
      · exact OpSpec.loadP rfl rfl rfl rfl h.qb rfl
    refine S_ghostF (t := 3) (gid := σ.length) (gver := 0) (σ' := σ ++ [(0, some (.cells [] ⟨false, none⟩))]) 3 ⟨false, none⟩ rfl (alloc_last h.al _) ⟨.skip, _, .inr ⟨_, _, _, rfl⟩⟩ ?_
    have hL2 : LAt (σ ++ [(0, some (.cells [] ⟨false, none⟩))]) q mid none t now es := h.app _ _
    have hK2 : QKeep σ (σ ++ [(0, some (.cells [] ⟨false, none⟩))]) (OwnL q mid es) (OwnL q mid es) := QKeep.app
    have hg2 : (σ ++ [((0, some (.cells [] ⟨false, none⟩)) : Nat × Option Box)])[σ.length]? = some (0, some (.cells [] ⟨false, none⟩)) := app_last
    have hlen2 : (σ ++ [((0, some (.cells [] ⟨false, none⟩)) : Nat × Option Box)]).length = σ.length + 1 := by simp
    generalize (σ ++ [((0, some (.cells [] ⟨false, none⟩)) : Nat × Option Box)]) = σ2 at *
    refine S_stamp (id := mid) hL2.mb (fun bs c0 hbl hbn hbc => ?_) ⟨.skip, _, .inr ⟨_, _, _, rfl⟩⟩
    have hbl : bs.length = es.length := by rw [hbl]; simp [entK]
    have hL3 := hL2.stamp (some (bs, c0))
    have hno : ∀ id, σ.length ≤ id → ¬ OwnL q mid es id := fun id hid ho => by have := h.lt _ ho; omega
    have hgm : σ.length ≠ mid := fun e => hno _ (Nat.le_refl _) (e ▸ own_m)
    have hK3 : QKeep σ (σ2.set mid (0, some (.map (entK es) (some (bs, c0))))) (OwnL q mid es) (OwnL q mid es) := hK2.setO own_m _
    have hg3 : (σ2.set mid (0, some (.map (entK es) (some (bs, c0)))))[σ.length]? = some (0, some (.cells [] ⟨false, none⟩)) := by rw [set_ne hgm]; exact hg2
    have hlen3 : (σ2.set mid (0, some (.map (entK es) (some (bs, c0))))).length = σ.length + 1 := by rw [List.length_set]; exact hlen2
    generalize σ2.set mid (0, some (.map (entK es) (some (bs, c0)))) = σ3 at *
    refine pao [.f (.ptr σ3.length 0 0) (fun s => s ++ [(0, some (.miter mid 0 c0 [] c0))])] rfl ?_ ?_
    · (repeat' with_reducible apply AllP_cons) <;> try exact aC
      · exact OpSpec.rangeG hL3.al rfl rfl rfl hL3.mb rfl
    rw [hlen3]
    have hL4 : LAt (σ3 ++ [(0, some (.miter mid 0 c0 [] c0))]) q mid (some (bs, c0)) t now es := hL3.app _ _
    have hK4 : QKeep σ (σ3 ++ [(0, some (.miter mid 0 c0 [] c0))]) (OwnL q mid es) (OwnL q mid es) := hK3.trans QKeep.app
    have hg4 : (σ3 ++ [((0, some (.miter mid 0 c0 [] c0)) : Nat × Option Box)])[σ.length]? = some (0, some (.cells [] ⟨false, none⟩)) := app_get hg3
    have hm4 : (σ3 ++ [((0, some (.miter mid 0 c0 [] c0)) : Nat × Option Box)])[σ.length + 1]? = some (0, some (.miter mid 0 c0 [] c0)) := by rw [← hlen3]; exact app_last
    obtain ⟨look, hlook⟩ : ∃ look : Nat → List LE, look = gotL bs es leJ := ⟨_, rfl⟩
    refine S_heap (σ3 ++ [((0, some (.miter mid 0 c0 [] c0)) : Nat × Option Box)]) rfl ?_
    generalize σ3 ++ [((0, some (.miter mid 0 c0 [] c0)) : Nat × Option Box)] = σ4 at *
    have hnat : ∀ sn : List Nat, sn.Nodup → (∀ x ∈ sn, x ∈ bs) → sn.length ≤ bs.length := fun sn h1 h2 => List.Nodup.length_le_of_subset h1 h2
    refine S_while (α := Heap × List Nat × List LE) (fun s => [(0, .ptr q 0 0), (3, .ms σ.length s.2.2.length 0 s.2.2.length 3 false), (12, .ptr (σ.length + 1) 0 0)]) (fun s => s.1)
      (fun s => LAt s.1 q mid (some (bs, c0)) t now es ∧ QKeep σ s.1 (OwnL q mid es) (OwnL q mid es) ∧ s.1[σ.length]? = some (s.2.2.length, some (.cells (lsC s.2.2) ⟨false, none⟩)) ∧ s.1[σ.length + 1]? = some (0, some (.miter mid 0 c0 s.2.1 c0)) ∧ s.2.1.Nodup ∧ (∀ x ∈ s.2.1, x ∈ bs) ∧ s.2.2.Perm (s.2.1.flatMap look) ∧ s.2.2.length ≤ s.2.1.length * 1000)
      (fun s => bs.length - s.2.1.length) (σ4, [], []) ⟨hL4, hK4, hg4, hm4, .nil, (fun x h => by cases h), .refl _, Nat.le_refl _⟩ (.cons rfl (.cons rfl (.cons rfl (.nil _)))) rfl ?_
    rintro ⟨u, sn, out⟩ ⟨hL, hK, hg, hm, hs1, hs2, hs3, hs4⟩
    simp only at hL hK hg hm hs1 hs2 hs3 hs4
    refine pao [] rfl ?_ ?_
    · (repeat' with_reducible apply AllP_cons) <;> try exact aC
    refine S_mnext (id := σ.length + 1) (ver := 0) (mid := mid) (mver := 0) (since := c0) (last := c0) (c := c0) (seen := sn) (bs := bs) (kvs := entK es) rfl rfl hm hL.mb (fun x hx => hbc x hx) (Nat.le_refl _) rfl rfl ?_ ?_
    · intro i b hi2 hb' hns
      have hi : i < es.length := by simpa [entK] using hi2
      have hib : i < bs.length := by omega
      have hbe : bs[i] = b := by rw [List.getElem?_eq_getElem hib] at hb'; exact Option.some.inj hb'
      have hbm : b ∈ bs := hbe ▸ List.getElem_mem hib
      have hn2 : (sn ++ [b]).Nodup := List.nodup_append.2 ⟨hs1, by simp, fun x hx y hy => by simp at hy; subst hy; exact fun e => hns (e ▸ hx)⟩
      have hm2 : ∀ x ∈ sn ++ [b], x ∈ bs := fun x hx => by
        rcases List.mem_append.1 hx with hx | hx
        · exact hs2 x hx
        · simp at hx; subst hx; exact hbm
      have hlen2' := hnat _ hn2 hm2
      have hsl : (sn ++ [b]).length = sn.length + 1 := by simp
      rw [hsl] at hlen2'
      have hlk : look b = leJ es[i] := by
        rw [hlook, ← hbe]
        unfold gotL
        rw [lkG bs es hbl hbn i hib hi]
      have hmemE : es[i] ∈ es := List.getElem_mem hi
      have hTi := hb.tl _ hmemE
      have hTn := hb.tn _ hmemE
      have hkv : (entK es)[i]? = some (.str es[i].name, .ptr es[i].jid 0 0) := by
        unfold entK; rw [List.getElem?_map, List.getElem?_eq_getElem hi]; rfl
      have hL6 : LAt (u.set (σ.length + 1) (0, some (.miter mid 0 c0 (sn ++ [b]) c0))) q mid (some (bs, c0)) t now es := hL.mono (Alive.set hL.al _ _ _) fun id ho => set_ne fun e => by subst e; exact hno _ (Nat.le_succ _) ho
      have hK6 : QKeep σ (u.set (σ.length + 1) (0, some (.miter mid 0 c0 (sn ++ [b]) c0))) (OwnL q mid es) (OwnL q mid es) := hK.set (Nat.le_succ σ.length) _
      have hg6 : (u.set (σ.length + 1) (0, some (.miter mid 0 c0 (sn ++ [b]) c0)))[σ.length]? = some (out.length, some (.cells (lsC out) ⟨false, none⟩)) := by rw [set_ne (by omega)]; exact hg
      have hm6 : (u.set (σ.length + 1) (0, some (.miter mid 0 c0 (sn ++ [b]) c0)))[σ.length + 1]? = some (0, some (.miter mid 0 c0 (sn ++ [b]) c0)) := set_eq hm
      generalize es[i] = e at *
      refine pao [.b true, .s] rfl ?_ ?_
      · (repeat' with_reducible apply AllP_cons) <;> try exact aC
      refine S_heap (u.set (σ.length + 1) (0, some (.miter mid 0 c0 (sn ++ [b]) c0))) rfl ?_
      generalize u.set (σ.length + 1) (0, some (.miter mid 0 c0 (sn ++ [b]) c0)) = u6 at *
      have ap := hL6.ap hmemE
      have hje := hL6.jb e hmemE
      have hte := hL6.tb e hmemE
      refine pao [.v (.tup [.str e.name, .ptr e.jid 0 0]), .v (.map e.tid 0), .s] rfl ?_ ?_
      · (repeat' with_reducible apply AllP_cons) <;> try exact aC
        · exact OpSpec.entryG rfl rfl hm6 hL6.mb hb' hkv
        · exact OpSpec.loadP rfl rfl rfl rfl hje rfl
      refine S_stamp (id := e.tid) hte (fun bs2 c2 hl2 hn2' hc2 => ?_) ⟨.skip, _, .inr ⟨_, _, _, rfl⟩⟩
      have hl2 : bs2.length = e.till.length := by rw [hl2]; simp [tilK]
      have hgt : σ.length ≠ e.tid := fun x => hno _ (Nat.le_refl _) (x ▸ own_t hmemE)
      have hgt1 : σ.length + 1 ≠ e.tid := fun x => hno (σ.length + 1) (Nat.le_succ _) (x ▸ own_t hmemE)
      have hal7 : Alive (u6.set e.tid (0, some (.map (tilK e.till) (some (bs2, c2))))) := Alive.set hL6.al _ _ _
      have hte7 : (u6.set e.tid (0, some (.map (tilK e.till) (some (bs2, c2)))))[e.tid]? = some (0, some (.map (tilK e.till) (some (bs2, c2)))) := set_eq hte
      have hot7 : ∀ id, id ≠ e.tid → (u6.set e.tid (0, some (.map (tilK e.till) (some (bs2, c2)))))[id]? = u6[id]? := fun id hid => set_ne hid
      have hlen7 : (u6.set e.tid (0, some (.map (tilK e.till) (some (bs2, c2))))).length = u6.length := List.length_set ..
      generalize u6.set e.tid (0, some (.map (tilK e.till) (some (bs2, c2)))) = u7 at *
      refine pao [.f (.ptr u7.length 0 0) (fun s => s ++ [(0, some (.miter e.tid 0 c2 [] c2))])] rfl ?_ ?_
      · (repeat' with_reducible apply AllP_cons) <;> try exact aC
        · exact OpSpec.rangeG hal7 rfl rfl rfl hte7 rfl
      have htj : e.tid ≠ u7.length := by have := lt_of_get hte7; omega
      have hgj : σ.length ≠ u7.length := by have := lt_of_get hg6; omega
      have hgj1 : σ.length + 1 ≠ u7.length := by have := lt_of_get hm6; omega
      have hal8 : Alive (u7 ++ [(0, some (.miter e.tid 0 c2 [] c2))]) := Alive.app hal7 _ _
      have hte8 : (u7 ++ [((0, some (.miter e.tid 0 c2 [] c2)) : Nat × Option Box)])[e.tid]? = some (0, some (.map (tilK e.till) (some (bs2, c2)))) := app_get hte7
      have hmj8 : (u7 ++ [((0, some (.miter e.tid 0 c2 [] c2)) : Nat × Option Box)])[u7.length]? = some (0, some (.miter e.tid 0 c2 [] c2)) := app_last
      have hot8 : ∀ id, id < u7.length → id ≠ e.tid → (u7 ++ [((0, some (.miter e.tid 0 c2 [] c2)) : Nat × Option Box)])[id]? = u6[id]? := fun id h1 h2 => by rw [List.getElem?_append_left h1, hot7 id h2]
      have hlen8 : (u7 ++ [((0, some (.miter e.tid 0 c2 [] c2)) : Nat × Option Box)]).length = u7.length + 1 := by simp
      refine S_heap (u7 ++ [((0, some (.miter e.tid 0 c2 [] c2)) : Nat × Option Box)]) rfl ?_
      generalize hu8 : u7 ++ [((0, some (.miter e.tid 0 c2 [] c2)) : Nat × Option Box)] = u8 at *
      generalize hmj : u7.length = mj at *
      have hg8 : u8[σ.length]? = some (out.length, some (.cells (lsC out) ⟨false, none⟩)) := by rw [hot8 _ (by have := lt_of_get hg6; omega) hgt]; exact hg6
      have hnat2 : ∀ sn : List Nat, sn.Nodup → (∀ x ∈ sn, x ∈ bs2) → sn.length ≤ bs2.length := fun sn h1 h2 => List.Nodup.length_le_of_subset h1 h2
      obtain ⟨look2, hlook2⟩ : ∃ look2 : Nat → List LE, look2 = gotL bs2 e.till (fun p => [leP e.name p]) := ⟨_, rfl⟩
      refine S_while (α := List Nat × List LE) (fun s => [(0, .ptr q 0 0), (3, .ms σ.length s.2.length 0 s.2.length 3 false), (12, .ptr (σ.length + 1) 0 0), (4, .str e.name), (22, .ptr mj 0 0)]) (fun s => (u8.set σ.length (s.2.length, some (.cells (lsC s.2) ⟨false, none⟩))).set mj (0, some (.miter e.tid 0 c2 s.1 c2)))
        (fun s => s.1.Nodup ∧ (∀ x ∈ s.1, x ∈ bs2) ∧ s.2 = out ++ s.1.flatMap look2 ∧ s.2.length = out.length + s.1.length) (fun s => bs2.length - s.1.length) ([], out) ⟨.nil, (fun x h => by cases h), by simp, by simp⟩ (.cons rfl (.cons rfl (.cons rfl (.cons rfl (.cons rfl (.nil _)))))) (by show u8 = (u8.set σ.length (out.length, some (.cells (lsC out) ⟨false, none⟩))).set mj _; rw [set_self hg8, set_self hmj8]) ?_
      rintro ⟨sn2, o2⟩ ⟨k1, k2, k3, k4⟩
      simp only at k1 k2 k3 k4
      obtain ⟨A, hA⟩ : ∃ A : Nat × Option Box, A = (o2.length, some (.cells (lsC o2) ⟨false, none⟩)) := ⟨_, rfl⟩
      show S cx _ B _ _ _ ((u8.set σ.length (o2.length, some (.cells (lsC o2) ⟨false, none⟩))).set mj (0, some (.miter e.tid 0 c2 sn2 c2)))
      rw [← hA]
      have hm9 : ((u8.set σ.length A).set mj (0, some (.miter e.tid 0 c2 sn2 c2)))[mj]? = some (0, some (.miter e.tid 0 c2 sn2 c2)) := set_eq (y := (0, some (.miter e.tid 0 c2 [] c2))) (by rw [set_ne hgj.symm]; exact hmj8)
      have ht9 : ((u8.set σ.length A).set mj (0, some (.miter e.tid 0 c2 sn2 c2)))[e.tid]? = some (0, some (.map (tilK e.till) (some (bs2, c2)))) := by rw [set_ne htj, set_ne hgt.symm]; exact hte8
      refine pao [] rfl ?_ ?_
      · (repeat' with_reducible apply AllP_cons) <;> try exact aC
      refine S_mnext (id := mj) (ver := 0) (mid := e.tid) (mver := 0) (since := c2) (last := c2) (c := c2) (seen := sn2) (bs := bs2) (kvs := tilK e.till) rfl rfl hm9 ht9 (fun x hx => hc2 x hx) (Nat.le_refl _) rfl rfl ?_ ?_
      · intro k b2 hk hb2 hns2
        have hk2 : k < e.till.length := by simpa [tilK] using hk
        have hkb : k < bs2.length := by omega
        have hbk : bs2[k] = b2 := by rw [List.getElem?_eq_getElem hkb] at hb2; exact Option.some.inj hb2
        have hbm2 : b2 ∈ bs2 := hbk ▸ List.getElem_mem hkb
        have hkv2 : (tilK e.till)[k]? = some (.int .i64 e.till[k].1, .int .i64 e.till[k].2) := by
          unfold tilK; rw [List.getElem?_map, List.getElem?_eq_getElem hk2]; rfl
        have hlk2 : look2 b2 = [leP e.name e.till[k]] := by
          rw [hlook2, ← hbk]
          unfold gotL
          rw [lkG bs2 e.till hl2 hn2' k hkb hk2]
        have hn3 : (sn2 ++ [b2]).Nodup := List.nodup_append.2 ⟨k1, by simp, fun x hx y hy => by simp at hy; subst hy; exact fun e => hns2 (e ▸ hx)⟩
        have hm3 : ∀ x ∈ sn2 ++ [b2], x ∈ bs2 := fun x hx => by
          rcases List.mem_append.1 hx with hx | hx
          · exact k2 x hx
          · simp at hx; subst hx; exact hbm2
        have hlen3' := hnat2 _ hn3 hm3
        have hsl2 : (sn2 ++ [b2]).length = sn2.length + 1 := by simp
        rw [hsl2] at hlen3'
        have hmA : (((u8.set σ.length A).set mj (0, some (.miter e.tid 0 c2 sn2 c2))).set mj (0, some (.miter e.tid 0 c2 (sn2 ++ [b2]) c2))) = (u8.set σ.length A).set mj (0, some (.miter e.tid 0 c2 (sn2 ++ [b2]) c2)) := List.set_set ..
        rw [hmA]
        have hm10 : ((u8.set σ.length A).set mj (0, some (.miter e.tid 0 c2 (sn2 ++ [b2]) c2)))[mj]? = some (0, some (.miter e.tid 0 c2 (sn2 ++ [b2]) c2)) := set_eq (y := (0, some (.miter e.tid 0 c2 [] c2))) (by rw [set_ne hgj.symm]; exact hmj8)
        have ht10 : ((u8.set σ.length A).set mj (0, some (.miter e.tid 0 c2 (sn2 ++ [b2]) c2)))[e.tid]? = some (0, some (.map (tilK e.till) (some (bs2, c2)))) := by rw [set_ne htj, set_ne hgt.symm]; exact hte8
        have hg10 : ((u8.set σ.length A).set mj (0, some (.miter e.tid 0 c2 (sn2 ++ [b2]) c2)))[σ.length]? = some (o2.length, some (.cells (lsC o2) ⟨false, none⟩)) := by rw [set_ne hgj, set_eq hg8, hA]
        obtain ⟨G, hG⟩ : ∃ G : Nat × Option Box, G = (o2.length + 1, some (.cells (lsC (o2 ++ [leP e.name e.till[k]])) ⟨false, none⟩)) := ⟨_, rfl⟩
        have hl1 : (o2 ++ [leP e.name e.till[k]]).length = o2.length + 1 := by simp
        have hbig : o2.length ≤ 2000000 := by have := hb.el; omega
        refine pao [.b true, .v (.tup [.int .i64 e.till[k].1, .int .i64 e.till[k].2]), .f (.ms σ.length (o2.length + 1) 0 (o2.length + 1) 3 false) (fun s => s.set σ.length G)] rfl ?_ ?_
        · (repeat' with_reducible apply AllP_cons) <;> try exact aC
          · exact OpSpec.entryG rfl rfl hm10 ht10 hb2 hkv2
          · refine OpSpec.appendX (id := σ.length) (ver := o2.length) (off := 0) (len := o2.length) (y := .agg (leP e.name e.till[k]).cells) (cs := lsC o2) rfl rfl rfl rfl rfl ?_ hg10 ?_ ?_ ?_ ?_
            · intro z hz
              have hz : z ∈ (leP e.name e.till[k]).cells := hz
              exact lsC_one [leP e.name e.till[k]] z (by unfold lsC; simpa using hz)
            · rw [lsC_len]; omega
            · show (o2.length + 1) * 32 ≤ _; omega
            · omega
            · rw [hG, ← lsC_snoc]; rfl
        refine S_round (sn2 ++ [b2], o2 ++ [leP e.name e.till[k]]) (by show bs2.length - (sn2 ++ [b2]).length < bs2.length - sn2.length; rw [hsl2]; omega) ⟨hn3, hm3, ?_, ?_⟩ (.cons rfl (.cons (by rw [hl1]; rfl) (.cons rfl (.cons rfl (.cons rfl (.nil _)))))) ?_
        · show o2 ++ [leP e.name e.till[k]] = out ++ (sn2 ++ [b2]).flatMap look2
          rw [List.flatMap_append, List.flatMap_cons, hlk2, k3]; simp
        · show (o2 ++ [leP e.name e.till[k]]).length = out.length + (sn2 ++ [b2]).length
          rw [hl1, hsl2]; omega
        · show ((u8.set σ.length A).set mj _).set σ.length G = (u8.set σ.length _).set mj _
          rw [List.set_comm _ _ hgj.symm, List.set_set, hG, hl1]
      · intro hall2
        refine S_unstamp (id := e.tid) ht9 ?_ ⟨.skip, _, .inr ⟨_, _, _, rfl⟩⟩
        obtain ⟨W3, hW3⟩ : ∃ W3 : Heap, W3 = (((u8.set σ.length A).set mj (0, some (.miter e.tid 0 c2 sn2 c2))).set e.tid (0, some (.map (tilK e.till) none))) := ⟨_, rfl⟩
        refine S_heap W3 hW3.symm ?_
        have haW : Alive W3 := by rw [hW3]; exact Alive.set (Alive.set (by rw [hA]; exact Alive.set hal8 _ _ _) _ _ _) _ _ _
        have hoW : ∀ id, id < u6.length → id ≠ σ.length → W3[id]? = u6[id]? := fun id h1 h2 => by
          by_cases h3 : id = e.tid
          · subst h3; rw [hW3, set_eq ht9, hte]
          · rw [hW3, set_ne h3, set_ne (show id ≠ mj by omega), set_ne h2]; exact hot8 id (by omega) h3
        have hgW : W3[σ.length]? = some (o2.length, some (.cells (lsC o2) ⟨false, none⟩)) := by rw [hW3, set_ne hgt, set_ne hgj, set_eq hg8, hA]
        have hmW : W3[σ.length + 1]? = some (0, some (.miter mid 0 c0 (sn ++ [b]) c0)) := by rw [hoW _ (lt_of_get hm6) (by omega)]; exact hm6
        have hLW : LAt W3 q mid (some (bs, c0)) t now es := hL6.mono haW fun id ho => hoW id (hL6.lt id ho) (fun x => by subst x; exact hno _ (Nat.le_refl _) ho)
        have hlW : W3.length = u6.length + 1 := by rw [hW3, List.length_set, List.length_set, List.length_set]; omega
        have hKW : QKeep σ W3 (OwnL q mid es) (OwnL q mid es) := ⟨by have := hK6.len; omega, fun id hid hn => (hoW id (by have := hK6.len; omega) (by omega)).trans (hK6.same id hid hn), hK6.new⟩
        have hp2 : sn2.Perm bs2 := (List.perm_ext_iff_of_nodup k1 hn2').2 fun a => ⟨k2 a, hall2 a⟩
        have hfs : ∀ l : List (Int × Int), l.flatMap (fun p => [leP e.name p]) = l.map (leP e.name) := fun l => by
          induction l with
          | nil => rfl
          | cons x r ih => rw [List.flatMap_cons, List.map_cons, ih]; rfl
        have hpl : (sn2.flatMap look2).Perm (leJ e) := by
          refine (hp2.flatMap_right look2).trans ?_
          rw [hlook2, gotL_all _ bs2 e.till hl2 hn2', hfs]
          exact .refl _
        have hl3 := hnat2 _ k1 k2
        refine pao [.b false] rfl ?_ ?_
        · (repeat' with_reducible apply AllP_cons) <;> try exact aC
        refine S_round (W3, sn ++ [b], o2) (by show bs.length - (sn ++ [b]).length < bs.length - sn.length; rw [hsl]; omega) ⟨hLW, hKW, hgW, hmW, hn2, hm2, ?_, ?_⟩ (.cons rfl (.cons rfl (.cons rfl (.nil _)))) rfl
        · show o2.Perm ((sn ++ [b]).flatMap look)
          rw [k3, List.flatMap_append, List.flatMap_cons, hlk, List.flatMap_nil, List.append_nil]
          exact hs3.append hpl
        · show o2.length ≤ (sn ++ [b]).length * 1000
          rw [hsl, Nat.add_mul]; omega
    · intro hall
      refine pao [.b false, .s] rfl ?_ ?_
      · (repeat' with_reducible apply AllP_cons) <;> try exact aC
      refine S_unstamp (id := mid) hL.mb ?_ ⟨.skip, _, .inr ⟨_, _, _, rfl⟩⟩
      have hL5 := hL.stamp none
      have hK5 : QKeep σ (u.set mid (0, some (.map (entK es) none))) (OwnL q mid es) (OwnL q mid es) := hK.setO own_m _
      have hg5 : (u.set mid (0, some (.map (entK es) none)))[σ.length]? = some (out.length, some (.cells (lsC out) ⟨false, none⟩)) := by rw [set_ne hgm]; exact hg
      generalize u.set mid (0, some (.map (entK es) none)) = u5 at *
      have hp : sn.Perm bs := (List.perm_ext_iff_of_nodup hs1 hbn).2 fun a => ⟨hs2 a, hall a⟩
      have hpo : out.Perm (allL es) := by
        refine hs3.trans ((hp.flatMap_right look).trans ?_)
        rw [hlook, gotL_all leJ bs es hbl hbn]
        exact .refl _
      have hS := SortL_any out (by have := hnat sn hs1 hs2; have := hb.el; have : sn.length * 1000 ≤ 1000 * 1000 := Nat.mul_le_mul_right _ (by omega); omega) ((hpo.map _).nodup_iff.2 (allL_nd hb.nn hb.tl)) hg5
      refine pao [] rfl ?_ ?_
      · (repeat' with_reducible apply AllP_cons) <;> try exact aC
      refine S_call rfl rfl rfl hS (fun v s hR => ?_) (fun v s hR => by obtain ⟨hR, _⟩ := hR; cases hR)
      obtain ⟨hR, o3, hp3, hw3, rfl⟩ := hR
      cases hR
      refine pao [] rfl ?_ ?_
      · (repeat' with_reducible apply AllP_cons) <;> try exact aC
      have hl3 : out.length = o3.length := hp3.length_eq.symm
      refine S_ret ⟨_, _, rfl, trivial, σ.length, out.length, o3, ?_, Nat.le_refl _, set_eq hg5, hp3.trans hpo, hw3, ?_, hK5.set (Nat.le_refl _) _⟩
      · rw [← hl3]; rfl
      · refine hL5.mono (Alive.set hL5.al _ _ _) fun id ho => set_ne fun e => ?_
        subst e
        exact hno _ (Nat.le_refl _) ho
end Go.Proofs.Ytopdpbcfgjijaaa
end
section
set_option linter.unusedVariables false
set_option linter.unusedSimpArgs false
set_option maxRecDepth 20000
namespace Go.Proofs.Ytopdpbcfgjijaaa
open Go Go.Ab
structure EW (t : TM) (e : JE) : Prop where
  tw : (e.till.length : Int) ≤ t.twins
  t0 : 0 ≤ e.tried
  t1 : e.tried ≤ t.tries
  ho : e.till ≠ [] → e.st = 2 ∧ 1 ≤ e.tried
  tk : (e.till.map Prod.fst).Nodup
structure EOk (t : TM) (e : JE) : Prop extends EW t e where
  le : e.st = 2 → e.till ≠ []
structure BOk (t : TM) (es : List JE) : Prop where
  nn : (es.map JE.name).Nodup
  el : es.length ≤ 200
  eo : ∀ e ∈ es, EOk t e
def DnOk (dn : List Nm) (es : List JE) : Prop := ∀ s ∈ dn, ∃ e ∈ es, e.name = s ∧ e.st = 3
def LvN (n : Int) (es : List JE) : Prop := ∀ e ∈ es, ∀ p ∈ e.till, ¬ p.2 < n
structure TOk (t : TM) : Prop where
  l1 : 1 ≤ t.last
  l2 : t.last ≤ 1000000000
  r1 : 1 ≤ t.tries
  r2 : t.tries ≤ 10
  w1 : 1 ≤ t.twins
  w2 : t.twins ≤ 5
theorem TOk.of {t : TM} (h : termOk t = true) : TOk t := by
  unfold termOk witB at h
  simp only [Bool.and_eq_true, decide_eq_true_eq] at h
  exact ⟨by omega, by omega, by omega, by omega, by omega, by omega⟩
theorem BOk.bd {t : TM} {es : List JE} (h : BOk t es) (ht : TOk t) : BdOk t es :=
  ⟨ht.l1, ht.l2, by have := h.el; omega, fun e he => ⟨(h.eo e he).t0, by have := (h.eo e he).t1; have := ht.r2; omega⟩, fun e he => (h.eo e he).tk⟩
theorem BOk.lv {t : TM} {es : List JE} (h : BOk t es) (ht : TOk t) : LvOk es :=
  ⟨by have := h.el; omega, fun e he => (h.eo e he).tk, fun e he => by have := (h.eo e he).tw; have := ht.w2; omega, h.nn⟩
theorem EW.free {t : TM} {e : JE} (h : EW t e) : EOk t (freeE t.tries e) := by
  unfold freeE
  cases hf : frees e with
  | true =>
    unfold frees at hf
    rw [Bool.and_eq_true] at hf
    have he : e.till = [] := List.isEmpty_iff.1 hf.2
    rw [if_pos rfl]
    refine ⟨⟨h.tw, h.t0, h.t1, fun hn => absurd he hn, h.tk⟩, fun h2 => ?_⟩
    have h2 : (if e.tried = t.tries then (4 : Int) else 1) = 2 := h2
    split at h2 <;> cases h2
  | false =>
    rw [if_neg (by simp)]
    refine ⟨h, fun h2 hn => ?_⟩
    unfold frees at hf
    rw [h2, hn] at hf
    cases hf
theorem EOk.till {t : TM} {e : JE} (h : EOk t e) (n : Int) : EW t (tillE n e) := by
  have hs : (liv n e.till).Sublist e.till := List.filter_sublist
  refine ⟨?_, h.t0, h.t1, fun hn => h.ho fun h0 => hn ?_, h.tk.sublist (hs.map _)⟩
  · have := hs.length_le; have := h.tw
    show ((liv n e.till).length : Int) ≤ _
    omega
  · show liv n e.till = []
    rw [h0]; rfl
theorem EOk.tick {t : TM} {e : JE} (h : EOk t e) (n : Int) : EOk t (tickE t.tries n e) := (h.till n).free
theorem BOk.tick {t : TM} {es : List JE} (h : BOk t es) (n : Int) : BOk t (es.map (tickE t.tries n)) := by
  refine ⟨?_, by rw [List.length_map]; exact h.el, fun e he => ?_⟩
  · have : (es.map (tickE t.tries n)).map JE.name = es.map JE.name := by
      rw [List.map_map]
      exact List.map_congr_left fun e _ => (tickE_jid _ _ e).2.2.1
    rw [this]; exact h.nn
  · obtain ⟨x, hx, rfl⟩ := List.mem_map.1 he
    exact (h.eo x hx).tick n
theorem names_tick (es : List JE) (a n : Int) : (es.map (tickE a n)).map JE.name = es.map JE.name := by
  rw [List.map_map]
  exact List.map_congr_left fun e _ => (tickE_jid _ _ e).2.2.1
theorem tick_st {a n : Int} {e : JE} (h : e.st = 3) : (tickE a n e).st = 3 := by
  have hf : frees (tillE n e) = false := by
    unfold frees
    have : (tillE n e).st = 3 := h
    rw [this]; rfl
  unfold tickE freeE
  rw [hf]; exact h
theorem DnOk.tick {dn : List Nm} {es : List JE} (h : DnOk dn es) (a n : Int) : DnOk dn (es.map (tickE a n)) := fun s hs => by
  obtain ⟨e, he, h1, h2⟩ := h s hs
  exact ⟨_, List.mem_map_of_mem he, by rw [(tickE_jid _ _ e).2.2.1]; exact h1, tick_st h2⟩
theorem LvN.tick (es : List JE) (a n : Int) : LvN n (es.map (tickE a n)) := fun e he p hp => by
  obtain ⟨x, _, rfl⟩ := List.mem_map.1 he
  rw [(tickE_jid _ _ x).2.2.2.1] at hp
  exact of_decide_eq_true (List.mem_filter.1 hp).2
theorem BOk.set {t : TM} {es : List JE} (h : BOk t es) {i : Nat} (hi : i < es.length) {e : JE} (hn : e.name = es[i].name) (he : EOk t e) : BOk t (es.set i e) ∧ (es.set i e).map JE.name = es.map JE.name := by
  have hm : (es.set i e).map JE.name = es.map JE.name := by
    rw [List.map_set, hn]
    apply List.ext_getElem (by simp)
    intro j k1 k2
    rw [List.getElem_set]
    split
    · rename_i hij; subst hij; simp
    · rfl
  refine ⟨⟨by rw [hm]; exact h.nn, by rw [List.length_set]; exact h.el, fun x hx => ?_⟩, hm⟩
  rcases List.mem_or_eq_of_mem_set hx with hx | rfl
  · exact h.eo x hx
  · exact he
theorem DnOk.set {dn : List Nm} {es : List JE} (h : DnOk dn es) {i : Nat} (hi : i < es.length) (hs : es[i].st ≠ 3) (e : JE) : DnOk dn (es.set i e) := fun s hs' => by
  obtain ⟨x, hx, h1, h2⟩ := h s hs'
  obtain ⟨j, hj, rfl⟩ := List.getElem_of_mem hx
  have hij : i ≠ j := fun e => by subst e; exact hs h2
  refine ⟨es[j], ?_, h1, h2⟩
  have : (es.set i e)[j]'(by rw [List.length_set]; exact hj) = es[j] := List.getElem_set_ne hij _
  rw [← this]; exact List.getElem_mem _
theorem LvN.set {n : Int} {es : List JE} (h : LvN n es) {i : Nat} {e : JE} (he : ∀ p ∈ e.till, ¬ p.2 < n) : LvN n (es.set i e) := fun x hx => by
  rcases List.mem_or_eq_of_mem_set hx with hx | rfl
  · exact h x hx
  · exact he
theorem errT_3 {n now : Int} {ws : List Int} (h1 : 0 ≤ n) (h2 : n ≤ 1000000000) (h3 : now ≤ n) : errT n now ws = 0 ∨ errT n now ws = 3 := by
  unfold errT
  by_cases h : ws.any wrkB = true
  · rw [if_pos h]; exact .inr rfl
  · have hw : ¬ witB n 0 1000000000 = false := by unfold witB; simp [h1, h2]
    rw [if_neg h, if_neg hw, if_neg (by omega)]; exact .inl rfl
structure Aft (t : TM) (n : Int) (dn : List Nm) (es : List JE) (r : Int × Int × List JE) : Prop where
  b : BOk t (esS r)
  nw : nowS r ≤ n
  nm : (esS r).map JE.name = es.map JE.name
  dn : DnOk dn (esS r)
  lv : codeS r ≠ 3 → LvN n (esS r)
theorem hasW_some {l : List (Int × Int)} {w : Int} {j : Nat} (h : hasW l w = some j) : ∃ hj : j < l.length, l[j].1 = w := by
  obtain ⟨hj, h1, _⟩ := List.findIdx?_eq_some_iff_getElem.1 h
  exact ⟨hj, by simpa using h1⟩
theorem hasW_none {l : List (Int × Int)} {w : Int} (h : hasW l w = none) : w ∉ l.map Prod.fst := fun hm => by
  obtain ⟨p, hp, rfl⟩ := List.mem_map.1 hm
  have := List.findIdx?_eq_none_iff.1 h p hp
  simp at this
theorem grant_aft {t : TM} (ht : TOk t) {now n w : Int} {s : Nm} {dn : List Nm} {es : List JE} (hb : BOk t es) (hd : DnOk dn es) (h1 : 0 ≤ n) (h2 : n ≤ 1000000000) (h3 : now ≤ n) : Aft t n dn es (grantS t now n w s es) := by
  unfold grantS
  rcases errT_3 (ws := [w]) h1 h2 h3 with he | he
  · rw [if_pos he]
    have hbT := hb.tick n
    have hdT := hd.tick t.tries n
    have hlT := LvN.tick es t.tries n
    have hnT := names_tick es t.tries n
    generalize es.map (tickE t.tries n) = T at *
    cases ha : atL T s with
    | none => exact ⟨hbT, Int.le_refl _, hnT, hdT, fun _ => hlT⟩
    | some i =>
      obtain ⟨hi, _⟩ := atL_some ha
      simp only [List.getElem?_eq_getElem hi]
      have hei := hbT.eo _ (List.getElem_mem hi)
      have hli := hlT _ (List.getElem_mem hi)
      by_cases hg : grC t w T[i] = 0
      · rw [if_pos hg]
        unfold grC at hg
        by_cases g1 : T[i].st = 3 ∨ T[i].st = 4
        · rw [if_pos g1] at hg; cases hg
        rw [if_neg g1] at hg
        by_cases g2 : (hasW T[i].till w).isSome = true
        · rw [if_pos g2] at hg; cases hg
        rw [if_neg g2] at hg
        by_cases g3 : (T[i].till.length : Int) = t.twins ∨ T[i].tried = t.tries
        · rw [if_pos g3] at hg; cases hg
        have hw : hasW T[i].till w = none := by
          cases hh : hasW T[i].till w with
          | none => rfl
          | some j => rw [hh] at g2; simp at g2
        have hne : EOk t (grE t n w T[i]) := by
          refine ⟨⟨?_, ?_, ?_, fun _ => ⟨rfl, ?_⟩, ?_⟩, fun _ => ?_⟩
          · show (((T[i].till ++ [(w, n + t.last)]).length : Nat) : Int) ≤ _
            rw [List.length_append, List.length_singleton]
            have := hei.tw
            have : ¬ (T[i].till.length : Int) = t.twins := fun x => g3 (.inl x)
            omega
          · show 0 ≤ T[i].tried + 1
            have := hei.t0; omega
          · show T[i].tried + 1 ≤ _
            have := hei.t1
            have : ¬ T[i].tried = t.tries := fun x => g3 (.inr x)
            omega
          · show 1 ≤ T[i].tried + 1
            have := hei.t0; omega
          · show ((T[i].till ++ [(w, n + t.last)]).map Prod.fst).Nodup
            rw [List.map_append]
            refine List.nodup_append.2 ⟨hei.tk, by simp, fun a ha' b hb' => ?_⟩
            have : b = w := by simpa using hb'
            subst this
            exact fun e => hasW_none hw (e ▸ ha')
          · show T[i].till ++ [(w, n + t.last)] ≠ []
            simp
        obtain ⟨k1, k2⟩ := hbT.set hi (e := grE t n w T[i]) rfl hne
        refine ⟨k1, Int.le_refl _, k2.trans hnT, hdT.set hi (fun h => g1 (.inl h)) _, fun _ => hlT.set fun p hp => ?_⟩
        have hp : p ∈ T[i].till ++ [(w, n + t.last)] := hp
        rcases List.mem_append.1 hp with hp | hp
        · exact hli p hp
        · have : p = (w, n + t.last) := by simpa using hp
          rw [this]
          have := ht.l1
          show ¬ n + t.last < n
          omega
      · rw [if_neg hg]
        exact ⟨hbT, Int.le_refl _, hnT, hdT, fun _ => hlT⟩
  · rw [if_neg (by rw [he]; decide)]
    exact ⟨hb, h3, rfl, hd, fun h => absurd he h⟩
theorem act_aft {t : TM} {f : JE → JE} {now n w : Int} {s : Nm} {dn : List Nm} {es : List JE} (hb : BOk t es) (hd : DnOk dn es) (h1 : 0 ≤ n) (h2 : n ≤ 1000000000) (h3 : now ≤ n)
    (hf : ∀ e j, EOk t e → (∀ p ∈ e.till, ¬ p.2 < n) → hasW e.till w = some j → EOk t (f e) ∧ (f e).name = e.name ∧ ∀ p ∈ (f e).till, ¬ p.2 < n) : Aft t n dn es (actS f t now n w s es) := by
  unfold actS
  rcases errT_3 (ws := [w]) h1 h2 h3 with he | he
  · rw [if_pos he]
    have hbT := hb.tick n
    have hdT := hd.tick t.tries n
    have hlT := LvN.tick es t.tries n
    have hnT := names_tick es t.tries n
    generalize es.map (tickE t.tries n) = T at *
    cases ha : fndL T s w with
    | none => exact ⟨hbT, Int.le_refl _, hnT, hdT, fun _ => hlT⟩
    | some i =>
      obtain ⟨hi, j, hj, _⟩ := fndL_some ha
      simp only [List.getElem?_eq_getElem hi]
      have hei := hbT.eo _ (List.getElem_mem hi)
      have hli := hlT _ (List.getElem_mem hi)
      obtain ⟨q1, q2, q3⟩ := hf T[i] j hei hli hj
      obtain ⟨k1, k2⟩ := hbT.set hi (e := f T[i]) q2 q1
      have hst : T[i].st ≠ 3 := fun h => by
        obtain ⟨hjl, _⟩ := hasW_some hj
        have := (hei.ho fun h0 => by rw [h0] at hjl; cases hjl).1
        rw [h] at this; cases this
      exact ⟨k1, Int.le_refl _, k2.trans hnT, hdT.set hi hst _, fun _ => hlT.set q3⟩
  · rw [if_neg (by rw [he]; decide)]
    exact ⟨hb, h3, rfl, hd, fun h => absurd he h⟩
theorem be_ok {t : TM} (ht : TOk t) {n w : Int} (e : JE) (j : Nat) (he : EOk t e) (hl : ∀ p ∈ e.till, ¬ p.2 < n) (hj : hasW e.till w = some j) : EOk t (beE t n w e) ∧ (beE t n w e).name = e.name ∧ ∀ p ∈ (beE t n w e).till, ¬ p.2 < n := by
  obtain ⟨hjl, hjw⟩ := hasW_some hj
  have e1 : (beE t n w e).till = e.till.set j (w, n + t.last) := by unfold beE; simp only [hj]
  have hnn : e.till ≠ [] := fun h0 => by rw [h0] at hjl; cases hjl
  refine ⟨⟨⟨?_, he.t0, he.t1, fun _ => he.ho hnn, ?_⟩, fun _ => ?_⟩, rfl, fun p hp => ?_⟩
  · rw [e1, List.length_set]; exact he.tw
  · rw [e1, List.map_set]
    have : (e.till.map Prod.fst).set j w = e.till.map Prod.fst := by
      apply List.ext_getElem (by simp)
      intro k k1 k2
      rw [List.getElem_set]
      split
      · rename_i hk; subst hk; simp [hjw]
      · rfl
    show ((e.till.map Prod.fst).set j w).Nodup
    rw [this]; exact he.tk
  · rw [e1]; intro h0
    have := congrArg List.length h0
    rw [List.length_set] at this
    simp at this; exact hnn this
  · rw [e1] at hp
    rcases List.mem_or_eq_of_mem_set hp with hp | rfl
    · exact hl p hp
    · have := ht.l1
      show ¬ n + t.last < n
      omega
theorem dn_ok {t : TM} {n w : Int} (good : Bool) (e : JE) (j : Nat) (he : EOk t e) (hl : ∀ p ∈ e.till, ¬ p.2 < n) (hj : hasW e.till w = some j) : EOk t (dnE t w good e) ∧ (dnE t w good e).name = e.name ∧ ∀ p ∈ (dnE t w good e).till, ¬ p.2 < n := by
  cases good with
  | true =>
    refine ⟨⟨⟨?_, he.t0, he.t1, fun h => absurd rfl h, .nil⟩, fun h => ?_⟩, rfl, fun p hp => by cases hp⟩
    · have := he.tw
      show ((0 : Nat) : Int) ≤ _
      omega
    · have h : (3 : Int) = 2 := h
      cases h
  | false =>
    have e1 : (dlE w e).till = e.till.eraseIdx j := by unfold dlE; simp only [hj]
    have hs : (dlE w e).till.Sublist e.till := by rw [e1]; exact List.eraseIdx_sublist ..
    have hw : EW t (dlE w e) := by
      refine ⟨?_, he.t0, he.t1, fun hn => he.ho fun h0 => hn ?_, he.tk.sublist (hs.map _)⟩
      · have := hs.length_le; have := he.tw; omega
      · rw [h0] at hs; exact List.sublist_nil.1 hs
    obtain ⟨f1, f2, f3, f4, f5⟩ := freeE_jid t.tries (dlE w e)
    refine ⟨hw.free, f3, fun p hp => ?_⟩
    have hp : p ∈ (freeE t.tries (dlE w e)).till := hp
    rw [f4] at hp
    exact hl p (hs.subset hp)
end Go.Proofs.Ytopdpbcfgjijaaa
end
section
set_option linter.unusedVariables false
set_option linter.unusedSimpArgs false
set_option maxRecDepth 20000
namespace Go.Proofs.Ytopdpbcfgjijaaa
open Go Go.Ab
def chooseN (c : Int) (n : Nat) : Nat := (if c < 0 then (-(c + 1)).toNat else c.toNat) % n
theorem choose_ok (c : Int) (n : Nat) (hc : -9223372036854775808 ≤ c ∧ c ≤ 9223372036854775807) (hn : 0 < n) (hn2 : n ≤ 9223372036854775807) : Calc cx 9 [.int .i64 c, .int .i64 n] (.int .i64 (chooseN c n)) :=
  pure_intro (fun a w => Try.call9 a w) Try.func9 rfl Try.ntmps9 rfl .int fun B => by
    refine ab 1000 rfl trivial ?_
    have hmod : ∀ m : Nat, ((m : Int).tmod n) = ((m % n : Nat) : Int) := fun m => rfl
    refine S_dec rfl (fun h => ?_) (fun h => ?_)
    · have hw : IntKind.i64.wrap (0 - IntKind.i64.wrap (c + 1)) = (((-(c + 1)).toNat : Nat) : Int) := by
        have e1 : IntKind.i64.wrap (c + 1) = c + 1 := IntWalk.i64_in _ ⟨by omega, by omega⟩
        rw [e1]
        exact w64 (by omega) (by omega)
      refine ab 1000 rfl ⟨by omega, trivial⟩ ?_
      refine S_retc .int rfl trivial ?_
      show AV.int .i64 ((IntKind.i64.wrap (0 - IntKind.i64.wrap (c + 1))).tmod n) = _
      rw [hw, hmod, chooseN, if_pos h]
    · refine ab 1000 rfl ⟨by omega, trivial⟩ ?_
      refine S_retc .int rfl trivial ?_
      obtain ⟨m, rfl⟩ := Int.eq_ofNat_of_zero_le (by omega : 0 ≤ c)
      show AV.int .i64 ((m : Int).tmod n) = _
      rw [hmod, chooseN, if_neg h, Int.toNat_natCast]
theorem chooseN_lt (c : Int) {n : Nat} (hn : 0 < n) : chooseN c n < n := Nat.mod_lt _ hn
end Go.Proofs.Ytopdpbcfgjijaaa
end
section
set_option linter.unusedVariables false
set_option linter.unusedSimpArgs false
set_option maxRecDepth 20000
set_option maxHeartbeats 4000000
namespace Go.Proofs.Ytopdpbcfgjijaaa
open Go Go.Ab
def newL (σ : Heap) (t : TM) : Heap := σ ++ [termB t, (0, some (.map [] none)), (0, some (bookB t 0 (σ.length + 1)))]
theorem newL_at (σ : Heap) (t : TM) (hal : Alive σ) : LAt (newL σ t) (σ.length + 2) (σ.length + 1) none t 0 [] := by
  have e : newL σ t = ((σ ++ [termB t]) ++ [(0, some (.map [] none))]) ++ [(0, some (bookB t 0 (σ.length + 1)))] := by unfold newL; simp
  refine ⟨?_, ?_, ?_, (fun e he => by cases he), (fun e he => by cases he), ?_⟩
  · rw [e]; exact Alive.app (Alive.app (Alive.app hal _ _) _ _) _ _
  · unfold newL
    rw [List.getElem?_append_right (by omega)]
    rw [show σ.length + 2 - σ.length = 2 by omega]; rfl
  · unfold newL
    rw [List.getElem?_append_right (by omega)]
    rw [show σ.length + 1 - σ.length = 1 by omega]; rfl
  · unfold idsL idsJ; simp
def sA : Nm := [97]
theorem add_A : addE [] sA = 0 := by decide
def jA (st tried : Int) (till : List (Int × Int)) (m : Nat) : JE := ⟨sA, st, tried, till, m + 1, m⟩
theorem bd_A {t : TM} (h1 : 1 ≤ t.last) (h2 : t.last ≤ 1000000000) (st tried : Int) (ht : 0 ≤ tried ∧ tried ≤ 1000) (till : List (Int × Int)) (hn : (till.map Prod.fst).Nodup) (m : Nat) : BdOk t [jA st tried till m] :=
  ⟨h1, h2, Nat.le_add_left 1 999, fun e he => by rw [List.mem_singleton.1 he]; exact ht, fun e he => by rw [List.mem_singleton.1 he]; exact hn⟩
theorem grant_A (t : TM) (h1 : 1 ≤ t.tries) (h2 : 1 ≤ t.twins) (m : Nat) : grantS t 0 0 1 sA [newJ sA m] = (0, 0, [jA 2 1 [(1, t.last)] m]) := by
  unfold grantS
  rw [if_pos (by decide)]
  have e1 : [newJ sA m].map (tickE t.tries 0) = [newJ sA m] := rfl
  rw [e1]
  have e2 : atL [newJ sA m] sA = some 0 := rfl
  rw [e2]
  have e3 : [newJ sA m][0]? = some (newJ sA m) := rfl
  simp only [e3]
  have e4 : grC t 1 (newJ sA m) = 0 := by
    unfold grC
    have a1 : ¬ ((newJ sA m).st = 3 ∨ (newJ sA m).st = 4) := show ¬ ((1 : Int) = 3 ∨ (1 : Int) = 4) by decide
    have a2 : ¬ ((hasW (newJ sA m).till 1).isSome = true) := show ¬ ((hasW [] 1).isSome = true) by decide
    rw [if_neg a1, if_neg a2, if_neg]
    rintro (h | h)
    · have : ((0 : Nat) : Int) = t.twins := h
      omega
    · have : (0 : Int) = t.tries := h
      omega
  rw [if_pos e4]
  show ((0 : Int), (0 : Int), [grE t 0 1 (newJ sA m)]) = _
  have e5 : grE t 0 1 (newJ sA m) = jA 2 1 [(1, 0 + t.last)] m := rfl
  rw [e5, Int.zero_add]
theorem leaseBegun_ok : Calc cx 6 [] (.bool true) :=
  pure_intro (fun a w => Try.call6 a w) Try.func6 rfl Try.ntmps6 rfl .bool fun B => by
    have hN := New_ok [] ⟨5, 2, 1⟩ (fun e he => by cases he) (by decide)
    have hL : LAt (newL [] ⟨5, 2, 1⟩) 2 1 none ⟨5, 2, 1⟩ 0 [] := newL_at [] _ (fun e he => by cases he)
    refine pao [.f (.tup [.ptr 2 0 0, .int .i64 0]) (fun s => s ++ [termB ⟨5, 2, 1⟩, (0, some (.map [] none)), (0, some (bookB ⟨5, 2, 1⟩ 0 1))]), .b false, .b false] rfl ?_ ?_
    · (repeat' with_reducible apply AllP_cons) <;> try exact aC
    refine S_heap (newL [] ⟨5, 2, 1⟩) rfl ?_
    have hA := Add_ok (newL [] ⟨5, 2, 1⟩) 2 1 ⟨5, 2, 1⟩ 0 [] sA hL (by decide) (by decide) add_A
    refine S_call rfl rfl rfl hA (fun v s hR => ?_) (fun v s hR => by obtain ⟨hR, _⟩ := hR; cases hR)
    obtain ⟨hR, hL1, _⟩ := hR
    cases hR
    have hL1 : LAt s 2 1 none ⟨5, 2, 1⟩ 0 [newJ sA 3] := hL1
    have hG := Grant_ok s 2 1 ⟨5, 2, 1⟩ 0 0 1 [newJ sA 3] sA hL1 (bd_A (by decide) (by decide) 1 0 (by decide) [] (by decide) 3)
    rw [grant_A ⟨5, 2, 1⟩ (by decide) (by decide)] at hG
    refine pao [] rfl ?_ ?_
    · (repeat' with_reducible apply AllP_cons) <;> try exact aC
    refine S_call rfl rfl rfl hG (fun v s2 hR => ?_) (fun v s hR => by obtain ⟨hR, _⟩ := hR; cases hR)
    obtain ⟨hR, hL2, _⟩ := hR
    cases hR
    have hL2 : LAt s2 2 1 none ⟨5, 2, 1⟩ 0 [jA 2 1 [(1, 5)] 3] := hL2
    have hS := State_ok s2 2 1 ⟨5, 2, 1⟩ 0 _ sA hL2
    have hS : CallOk cx 21 [.ptr 2 0 0, .str sA] s2 (fun o s => o = .ret (.tup [.int .i64 2, .int .i64 1]) ∧ s = s2) := hS
    refine pao [.k (.tup [.int .i64 2, .int .i64 1]), .b true, .b true, .b true] rfl ?_ ?_
    · (repeat' with_reducible apply AllP_cons) <;> try exact aC
    exact S_ret ⟨_, _, rfl, trivial, _, rfl, .refl .bool⟩
end Go.Proofs.Ytopdpbcfgjijaaa
end
section
set_option linter.unusedVariables false
set_option linter.unusedSimpArgs false
set_option maxRecDepth 20000
set_option maxHeartbeats 4000000
namespace Go.Proofs.Ytopdpbcfgjijaaa
open Go Go.Ab
structure CL where
  kind : Int
  wk : Int
  n : Int
  job : Nm
  good : Bool
def CL.wf (c : CL) : Prop := (-9223372036854775808 ≤ c.kind ∧ c.kind ≤ 9223372036854775807) ∧ (-9223372036854775808 ≤ c.wk ∧ c.wk ≤ 9223372036854775807) ∧ (-9223372036854775808 ≤ c.n ∧ c.n ≤ 9223372036854775807)
def CL.cells (c : CL) : List AV := [.int .i64 c.kind, .int .i64 c.wk, .int .i64 c.n, .str c.job, .bool c.good]
def callA (c : CL) : AV := .agg c.cells
def callsA (l : List CL) : List AV := l.map callA
def callB (c : CL) : Nat × Option Box := (0, some (.cells c.cells ⟨false, some 38⟩))
theorem callsA_len (l : List CL) : (callsA l).length = l.length := by simp [callsA]
structure LI (t : TM) (σ : Heap) (es : List JE) (bn n : Int) (dn : List Nm) : Prop where
  la : LAt σ 3 2 none t bn es
  b : BOk t es
  le : bn ≤ n
  c0 : σ[0]? = some (termB t)
  c4 : σ[4]? = some (es.length, some (.cells (texts (es.map JE.name)) ⟨false, none⟩))
  c5 : σ[5]? = some (dn.length, some (.cells (texts dn) ⟨false, none⟩))
  no : ∀ id, id = 0 ∨ id = 4 ∨ id = 5 → ¬ OwnL 3 2 es id
  dk : DnOk dn es
theorem LI.app {t : TM} {σ : Heap} {es : List JE} {bn n : Int} {dn : List Nm} (h : LI t σ es bn n dn) (v : Nat) (x : Box) : LI t (σ ++ [(v, some x)]) es bn n dn :=
  ⟨h.la.app v x, h.b, h.le, app_get h.c0, app_get h.c4, app_get h.c5, h.no, h.dk⟩
theorem LI.noK {t : TM} {σ s : Heap} {es es' : List JE} {bn n : Int} {dn : List Nm} (h : LI t σ es bn n dn) (hk : QKeep σ s (OwnL 3 2 es) (OwnL 3 2 es')) : (∀ id, id = 0 ∨ id = 4 ∨ id = 5 → ¬ OwnL 3 2 es' id) ∧ ∀ id, id = 0 ∨ id = 4 ∨ id = 5 → s[id]? = σ[id]? := by
  have h5 := lt_of_get h.c5
  refine ⟨fun id hid ho => ?_, fun id hid => hk.same id (by omega) (h.no id hid)⟩
  rcases hk.new id ho with h1 | h1
  · exact h.no id hid h1
  · omega
theorem LI.mono {t : TM} {σ : Heap} {es : List JE} {bn n n' : Int} {dn : List Nm} (h : LI t σ es bn n dn) (hn : n ≤ n') : LI t σ es bn n' dn := ⟨h.la, h.b, by have := h.le; omega, h.c0, h.c4, h.c5, h.no, h.dk⟩
theorem LI.done {t : TM} {σ : Heap} {es : List JE} {bn n : Int} {dn : List Nm} (h : LI t σ es bn n dn) (s : Nm) (hd : DnOk (dn ++ [s]) es) : LI t (σ.set 5 (dn.length + 1, some (.cells (texts (dn ++ [s])) ⟨false, none⟩))) es bn n (dn ++ [s]) := by
  refine ⟨h.la.mono (Alive.set h.la.al _ _ _) fun id ho => set_ne fun e => h.no id (.inr (.inr e)) ho, h.b, h.le, by rw [set_ne (by decide)]; exact h.c0, by rw [set_ne (by decide)]; exact h.c4, ?_, h.no, hd⟩
  rw [set_eq h.c5, List.length_append, List.length_singleton]
theorem LI.add {t : TM} {σ s : Heap} {es : List JE} {bn n : Int} {dn : List Nm} {name : Nm} {m : Nat} (h : LI t σ es bn n dn) (ht : TOk t) (he : addE es name = 0) (hl : LAt s 3 2 none t bn (es ++ [newJ name m])) (hk : QKeep σ s (OwnL 3 2 es) (OwnL 3 2 (es ++ [newJ name m]))) :
    LI t (s.set 4 (es.length + 1, some (.cells (texts (es.map JE.name ++ [name])) ⟨false, none⟩))) (es ++ [newJ name m]) bn n dn ∧ s[4]? = some (es.length, some (.cells (texts (es.map JE.name)) ⟨false, none⟩)) := by
  obtain ⟨k1, k2⟩ := h.noK hk
  have h4 : s[4]? = some (es.length, some (.cells (texts (es.map JE.name)) ⟨false, none⟩)) := (k2 4 (.inr (.inl rfl))).trans h.c4
  unfold addE at he
  by_cases g1 : isName name = false
  · rw [if_pos g1] at he; cases he
  rw [if_neg g1] at he
  by_cases g2 : (atL es name).isSome = true
  · rw [if_pos g2] at he; cases he
  rw [if_neg g2] at he
  by_cases g3 : es.length = 200
  · rw [if_pos g3] at he; cases he
  have hnm : name ∉ es.map JE.name := fun hm => by
    obtain ⟨x, hx, e⟩ := List.mem_map.1 hm
    cases ha : atL es name with
    | some i => rw [ha] at g2; exact g2 rfl
    | none =>
      have := List.findIdx?_eq_none_iff.1 ha x hx
      simp [e] at this
  have hb : BOk t (es ++ [newJ name m]) := by
    refine ⟨?_, by rw [List.length_append, List.length_singleton]; have := h.b.el; omega, fun e he => ?_⟩
    · rw [List.map_append]
      refine List.nodup_append.2 ⟨h.b.nn, by simp, fun x hx y hy => ?_⟩
      have : y = name := by simpa [newJ] using hy
      subst this
      exact fun e => hnm (e ▸ hx)
    · rcases List.mem_append.1 he with he | he
      · exact h.b.eo e he
      · rw [List.mem_singleton.1 he]
        refine ⟨⟨?_, Int.le_refl _, ?_, fun h => absurd rfl h, .nil⟩, fun h => ?_⟩
        · have := ht.w1
          show ((0 : Nat) : Int) ≤ _
          omega
        · have := ht.r1
          show (0 : Int) ≤ _
          omega
        · have h : (1 : Int) = 2 := h
          cases h
  refine ⟨⟨hl.mono (Alive.set hl.al _ _ _) fun id ho => set_ne fun e => k1 id (.inr (.inl e)) ho, hb, h.le, ?_, ?_, ?_, k1, fun x hx => ?_⟩, h4⟩
  · rw [set_ne (by decide), k2 0 (.inl rfl)]; exact h.c0
  · rw [set_eq h4, List.length_append, List.length_singleton, List.map_append]; rfl
  · rw [set_ne (by decide), k2 5 (.inr (.inr rfl))]; exact h.c5
  · obtain ⟨e, he, h1, h2⟩ := h.dk x hx
    exact ⟨e, List.mem_append_left _ he, h1, h2⟩
theorem many_of : ∀ {es : List JE}, (es.map JE.name).Nodup → ∀ e ∈ es, (allL es).countP (fun x => x.job == e.name) = e.till.length
  | [], _, e, he => by cases he
  | y :: es, hn, e, he => by
    obtain ⟨h1, h2⟩ := List.nodup_cons.1 (show (y.name :: es.map JE.name).Nodup from hn)
    have e1 : allL (y :: es) = leJ y ++ allL es := rfl
    have hz : ∀ z : JE, (leJ z).countP (fun x => x.job == e.name) = if z.name = e.name then z.till.length else 0 := fun z => by
      unfold leJ
      rw [List.countP_map]
      split
      · rename_i hne
        rw [List.countP_eq_length.2]
        intro p _
        show (z.name == e.name) = true
        simp [hne]
      · rename_i hne
        rw [List.countP_eq_zero.2]
        intro p _
        show ¬ (z.name == e.name) = true
        simp [hne]
    rw [e1, List.countP_append, hz]
    rcases List.mem_cons.1 he with rfl | he
    · rw [if_pos rfl]
      have : (allL es).countP (fun x => x.job == e.name) = 0 := by
        rw [List.countP_eq_zero]
        intro x hx
        obtain ⟨z, hz', hx⟩ := List.mem_flatMap.1 hx
        obtain ⟨p, _, rfl⟩ := List.mem_map.1 hx
        show ¬ (z.name == e.name) = true
        intro h
        have : z.name = e.name := by simpa using h
        exact h1 (this ▸ List.mem_map_of_mem hz')
      omega
    · have hne : ¬ y.name = e.name := fun h => h1 (by rw [h]; exact List.mem_map_of_mem he)
      rw [if_neg hne, many_of h2 e he]
      omega
end Go.Proofs.Ytopdpbcfgjijaaa
end
section
set_option linter.unusedVariables false
set_option linter.unusedSimpArgs false
namespace Go.Ab
open Go
section
variable {cx : Cx} {n : Nat} {B : Bs} {k : List AI} {Q : Post} {fr : Fr} {σ : Heap}
inductive Wv : AV → AV → Prop
  | refl {a} : Wv a a
  | nils {st fl sz} : Wv .nils (.sl st fl sz [])
  | sl {st fl st' fl' sz xs} (h1 : st' = true → st = true) (h2 : fl' = true → fl = true) : Wv (.sl st fl sz xs) (.sl st' fl' sz xs)
theorem Wv.rel {r : Rl} {w : World} {v : Value} {a a' : AV} (h : Wv a a') (hv : VRel r w v a) : VRel r w v a' := by
  cases h with
  | refl => exact hv
  | nils => cases hv; exact .sl0 (fun _ => rfl)
  | sl h1 h2 =>
    cases hv with
    | sl0 hf => exact .sl0 (fun h => hf (h2 h))
    | sl hn hc0 hf hI hS hsz f hc hv => exact .sl hn hc0 (fun h => hf (h2 h)) hI (fun h => hS (h1 h)) hsz f hc hv
theorem Wv.one {a a' : AV} (h : Wv a a') (ho : a.one = true) : a'.one = true := by
  cases h with
  | refl => exact ho
  | nils => rfl
  | sl _ _ => rfl
inductive Wvs : List AV → List AV → Prop
  | nil : Wvs [] []
  | cons {a b az bs} (h : Wv a b) (hs : Wvs az bs) : Wvs (a :: az) (b :: bs)
theorem Wvs.len {az bs : List AV} (h : Wvs az bs) : az.length = bs.length := by
  induction h with
  | nil => rfl
  | cons _ _ ih => simp [ih]
theorem Wvs.get {az bs : List AV} (h : Wvs az bs) : ∀ (i : Nat) (h1 : i < az.length) (h2 : i < bs.length), Wv az[i] bs[i] := by
  induction h with
  | nil => intro i h1; simp at h1
  | cons h hs ih =>
    intro i h1 h2
    cases i with
    | zero => exact h
    | succ i => exact ih i (by simpa using h1) (by simpa using h2)
theorem S_nilF {todo : List AI} (t sz : Nat) (st fl : Bool) (h : fr.get t = .nils) (hT : ∃ c k, todo = .code c :: k ∨ ∃ all l K, todo = .ops all l K :: k)
    (hk : S cx n B todo Q ((t, .sl st fl sz []) :: fr) σ) : S cx n B todo Q fr σ := by
  have key : ∀ r w a, FRel r w n fr a → FRel r w n ((t, .sl st fl sz []) :: fr) a := by
    intro r w a hf
    refine ⟨hf.size, fun s => ?_, fun vs hm => ?_⟩
    · rw [Fr.get_cons]
      split
      · rename_i hs
        subst hs
        have hv := hf.get t
        rw [h] at hv
        exact Wv.rel .nils hv
      · exact hf.get s
    · rw [Fr.get_cons] at hm
      split at hm
      · cases hm
      · exact hf.defs vs hm
  obtain ⟨c, k, hT⟩ := hT
  rcases hT with rfl | ⟨all, l, K, rfl⟩
  · exact fun r a w hi hf hd hx => hk r a w hi (key r w a hf) hd hx
  · exact fun r a w hi hf hd hx => hk r a w hi (key r w a hf) hd hx
end
end Go.Ab
end
section
set_option linter.unusedVariables false
set_option linter.unusedSimpArgs false
set_option maxRecDepth 20000
set_option maxHeartbeats 2000000
namespace Go.Proofs.Ytopdpbcfgjijaaa
open Go Go.Ab
structure PB where
  now : Int
  names : List Nm
  sts : List Int
  trs : List Int
  all : List LE
structure PL where
  r : Nat
  nid : Nat
  sid : Nat
  tid : Nat
  aid : Nat
  nv : Nat
  sv : Nat
  tv : Nat
  av : Nat
def intC (l : List Int) : List AV := l.map fun z => .int .i64 z
theorem intC_len (l : List Int) : (intC l).length = l.length := by simp [intC]
theorem intC_at {l : List Int} {i : Nat} (h : i < l.length) : ((intC l).drop (offN 0 (mulN ((i : Int)).toNat 1)))[0]? = some (.int .i64 l[i]) := by
  rw [offN_eq, mulN_eq, Int.toNat_natCast, Nat.zero_add, Nat.mul_one, List.getElem?_drop, Nat.add_zero]
  simp [intC, h]
theorem intC_app (a b : List Int) : intC (a ++ b) = intC a ++ intC b := List.map_append
theorem lsC_f {l : List LE} {k : Nat} (h : k < l.length) (f : Nat) (hf : f < 3) : ((lsC l).drop (offN 0 (mulN ((k : Int)).toNat 3) + f))[0]? = (l[k]).cells[f]? := by
  obtain ⟨r, hr⟩ := lsC_at h
  rw [offN_eq, mulN_eq, Int.toNat_natCast, Nat.zero_add, ← List.drop_drop, hr, List.getElem?_drop]
  match f, hf with
  | 0, _ => rfl
  | 1, _ => rfl
  | 2, _ => rfl
theorem txC_f {l : List Nm} {k : Nat} (h : k < l.length) : ((texts l).drop (offN 0 (mulN ((k : Int)).toNat 1)))[0]? = some (.str l[k]) := by
  rw [offN_eq, mulN_eq, Int.toNat_natCast, Nat.zero_add, Nat.mul_one, List.getElem?_drop]
  simp [texts, h]
def pbC (t : TM) (L : PL) (s : PB) : List AV := [.int .i64 t.last, .int .i64 t.tries, .int .i64 t.twins, .int .i64 s.now, .ms L.nid L.nv 0 s.names.length 1 false, .ms L.sid L.sv 0 s.sts.length 1 false, .ms L.tid L.tv 0 s.trs.length 1 false, .ms L.aid L.av 0 s.all.length 3 false]
def pbB (t : TM) (L : PL) (s : PB) : Box := .cells (pbC t L s) ⟨false, some 36⟩
def idsP (L : PL) : List Nat := [L.r, L.nid, L.sid, L.tid, L.aid]
def OwnP (L : PL) (id : Nat) : Prop := id ∈ idsP L
structure PAt (σ : Heap) (L : PL) (t : TM) (s : PB) : Prop where
  al : Alive σ
  rb : σ[L.r]? = some (0, some (pbB t L s))
  nb : σ[L.nid]? = some (L.nv, some (.cells (texts s.names) ⟨false, none⟩))
  sb : σ[L.sid]? = some (L.sv, some (.cells (intC s.sts) ⟨false, none⟩))
  tb : σ[L.tid]? = some (L.tv, some (.cells (intC s.trs) ⟨false, none⟩))
  ab : σ[L.aid]? = some (L.av, some (.cells (lsC s.all) ⟨false, none⟩))
  nd : (idsP L).Nodup
theorem ownP {L : PL} {id : Nat} : OwnP L id ↔ id = L.r ∨ id = L.nid ∨ id = L.sid ∨ id = L.tid ∨ id = L.aid := by unfold OwnP idsP; simp
theorem PAt.mono {σ σ' : Heap} {L : PL} {t : TM} {s : PB} (h : PAt σ L t s) (ha : Alive σ') (hk : ∀ id, OwnP L id → σ'[id]? = σ[id]?) : PAt σ' L t s :=
  ⟨ha, (hk _ (ownP.2 (.inl rfl))).trans h.rb, (hk _ (ownP.2 (.inr (.inl rfl)))).trans h.nb, (hk _ (ownP.2 (.inr (.inr (.inl rfl))))).trans h.sb, (hk _ (ownP.2 (.inr (.inr (.inr (.inl rfl)))))).trans h.tb, (hk _ (ownP.2 (.inr (.inr (.inr (.inr rfl)))))).trans h.ab, h.nd⟩
theorem PAt.lt {σ : Heap} {L : PL} {t : TM} {s : PB} (h : PAt σ L t s) : ∀ id, OwnP L id → id < σ.length := fun id ho => by
  rcases ownP.1 ho with rfl | rfl | rfl | rfl | rfl
  · exact lt_of_get h.rb
  · exact lt_of_get h.nb
  · exact lt_of_get h.sb
  · exact lt_of_get h.tb
  · exact lt_of_get h.ab
theorem PAt.app {σ : Heap} {L : PL} {t : TM} {s : PB} (h : PAt σ L t s) (v : Nat) (x : Box) : PAt (σ ++ [(v, some x)]) L t s :=
  h.mono (h.al.app v x) fun id ho => List.getElem?_append_left (h.lt id ho)
def idxP {α : Type} (p : α → Bool) (l : List α) : Int := match l.findIdx? p with | some i => (i : Int) | none => -1
theorem find_noneP {α : Type} {p : α → Bool} {l : List α} (h : ∀ k (hk : k < l.length), p l[k] = false) : l.findIdx? p = none := by
  rw [List.findIdx?_eq_none_iff]
  intro x hx
  obtain ⟨k, hk, rfl⟩ := List.getElem_of_mem hx
  exact h k hk
theorem find_atP {α : Type} {p : α → Bool} {l : List α} {i : Nat} (hi : i < l.length) (hp : p l[i] = true) (h : ∀ k (hk : k < i), p (l[k]'(by omega)) = false) : l.findIdx? p = some i :=
  List.findIdx?_eq_some_iff_getElem.2 ⟨hi, hp, fun j hj => by simp [h j hj]⟩
theorem At_ok (σ : Heap) (L : PL) (t : TM) (s : PB) (name : Nm) (h : PAt σ L t s) (hl : s.names.length ≤ 1000) :
    CallOk cx 22 [.ptr L.r 0 0, .str name] σ (fun o u => o = .ret (.int .i64 (idxP (fun j => j == name) s.names)) ∧ u = σ) :=
  callOk_intro (fun a w => Try.call22 a w) Try.func22 rfl Try.ntmps22 rfl fun B => by
    refine pao [] rfl ?_ ?_
    · (repeat' with_reducible apply AllP_cons) <;> try exact aC
    refine S_while (α := Nat) (fun i => [(0, .ptr L.r 0 0), (1, .str name), (5, .int .i64 (i : Nat))]) (fun _ => σ) (fun i => i ≤ s.names.length ∧ ∀ k (hk : k < s.names.length), k < i → (s.names[k] == name) = false) (fun i => s.names.length - i) 0
      ⟨Nat.zero_le _, fun k hk h => by omega⟩ (.cons rfl (.cons rfl (.cons rfl (.nil _)))) rfl ?_
    rintro i ⟨hi, hno⟩
    by_cases hlt : i < s.names.length
    · have c1 : decide ((i : Int) < (s.names.length : Int)) = true := decide_eq_true (by omega)
      have hld := txC_f hlt
      cases hb : s.names[i] == name with
      | true =>
        refine pao [.v (.ms L.nid L.nv 0 s.names.length 1 false), .b true, .v (.ms L.nid L.nv 0 s.names.length 1 false), .v .top, .v (.str s.names[i]), .b true] rfl ?_ ?_
        · (repeat' with_reducible apply AllP_cons) <;> try exact aC
          · exact OpSpec.loadP rfl rfl rfl rfl h.rb rfl
          · exact OpSpec.loadP rfl rfl rfl rfl h.rb rfl
          · exact OpSpec.loadE rfl rfl rfl rfl h.nb hld
        refine S_ret ⟨_, _, rfl, trivial, ?_, rfl⟩
        unfold idxP
        rw [find_atP hlt hb (fun k hk => hno k (by omega) hk)]; rfl
      | false =>
        refine pao [.v (.ms L.nid L.nv 0 s.names.length 1 false), .b true, .v (.ms L.nid L.nv 0 s.names.length 1 false), .v .top, .v (.str s.names[i]), .b false] rfl ?_ ?_
        · (repeat' with_reducible apply AllP_cons) <;> try exact aC
          · exact OpSpec.loadP rfl rfl rfl rfl h.rb rfl
          · exact OpSpec.loadP rfl rfl rfl rfl h.rb rfl
          · exact OpSpec.loadE rfl rfl rfl rfl h.nb hld
        refine S_round (i + 1) (by show s.names.length - (i + 1) < s.names.length - i; omega) ⟨hlt, fun k hk hki => ?_⟩ (.cons rfl (.cons rfl (.cons ?_ (.nil _)))) rfl
        · rcases Nat.lt_or_ge k i with h' | h'
          · exact hno k hk h'
          · obtain rfl : k = i := by omega
            exact hb
        · show AV.int .i64 (IntKind.i64.wrap ((i : Int) + 1)) = .int .i64 ((i + 1 : Nat) : Int); exact ai64 rfl (by omega)
    · have c1 : decide ((i : Int) < (s.names.length : Int)) = false := decide_eq_false (by omega)
      refine pao [.v (.ms L.nid L.nv 0 s.names.length 1 false), .b false] rfl ?_ ?_
      · (repeat' with_reducible apply AllP_cons) <;> try exact aC
        · exact OpSpec.loadP rfl rfl rfl rfl h.rb rfl
      refine S_ret ⟨_, _, rfl, trivial, ?_, rfl⟩
      unfold idxP
      rw [find_noneP fun k hk => hno k hk (by omega)]; rfl
def hasP (name : Nm) (w : Int) (x : LE) : Bool := x.job == name && x.wk == w
theorem Has_ok (σ : Heap) (L : PL) (t : TM) (s : PB) (name : Nm) (w : Int) (h : PAt σ L t s) (hl : s.all.length ≤ 100000) :
    CallOk cx 30 [.ptr L.r 0 0, .str name, .int .i64 w] σ (fun o u => o = .ret (.int .i64 (idxP (hasP name w) s.all)) ∧ u = σ) :=
  callOk_intro (fun a w => Try.call30 a w) Try.func30 rfl Try.ntmps30 rfl fun B => by
    refine pao [] rfl ?_ ?_
    · (repeat' with_reducible apply AllP_cons) <;> try exact aC
    refine S_while (α := Nat) (fun i => [(0, .ptr L.r 0 0), (1, .str name), (2, .int .i64 w), (7, .int .i64 (i : Nat))]) (fun _ => σ) (fun i => i ≤ s.all.length ∧ ∀ k (hk : k < s.all.length), k < i → hasP name w s.all[k] = false) (fun i => s.all.length - i) 0
      ⟨Nat.zero_le _, fun k hk h => by omega⟩ (.cons rfl (.cons rfl (.cons rfl (.cons rfl (.nil _))))) rfl ?_
    rintro i ⟨hi, hno⟩
    by_cases hlt : i < s.all.length
    · have c1 : decide ((i : Int) < (s.all.length : Int)) = true := decide_eq_true (by omega)
      have hi1 : AV.int .i64 (IntKind.i64.wrap ((i : Int) + 1)) = .int .i64 ((i + 1 : Nat) : Int) := ai64 rfl (by omega)
      have hld := lsC_f hlt 0 (by decide)
      have hld1 := lsC_f hlt 1 (by decide)
      have hnx : hasP name w s.all[i] = false → ∀ k (hk : k < s.all.length), k < i + 1 → hasP name w s.all[k] = false := fun hb k hk hki => by
        rcases Nat.lt_or_ge k i with h' | h'
        · exact hno k hk h'
        · obtain rfl : k = i := by omega
          exact hb
      cases hb : s.all[i].job == name with
      | true =>
        cases hb2 : s.all[i].wk == w with
        | true =>
          refine pao [.v (.ms L.aid L.av 0 s.all.length 3 false), .b true, .v (.ms L.aid L.av 0 s.all.length 3 false), .v .top, .v (.str s.all[i].job), .b true, .v (.ms L.aid L.av 0 s.all.length 3 false), .v .top, .v (.int .i64 s.all[i].wk), .b true] rfl ?_ ?_
          · (repeat' with_reducible apply AllP_cons) <;> try exact aC
            · exact OpSpec.loadP rfl rfl rfl rfl h.rb rfl
            · exact OpSpec.loadP rfl rfl rfl rfl h.rb rfl
            · exact OpSpec.loadE rfl rfl rfl rfl h.ab hld
            · exact OpSpec.loadP rfl rfl rfl rfl h.rb rfl
            · exact OpSpec.loadE rfl rfl rfl rfl h.ab hld1
          refine S_ret ⟨_, _, rfl, trivial, ?_, rfl⟩
          unfold idxP
          rw [find_atP hlt (by unfold hasP; rw [hb, hb2]; rfl) (fun k hk => hno k (by omega) hk)]; rfl
        | false =>
          refine pao [.v (.ms L.aid L.av 0 s.all.length 3 false), .b true, .v (.ms L.aid L.av 0 s.all.length 3 false), .v .top, .v (.str s.all[i].job), .b true, .v (.ms L.aid L.av 0 s.all.length 3 false), .v .top, .v (.int .i64 s.all[i].wk), .b false] rfl ?_ ?_
          · (repeat' with_reducible apply AllP_cons) <;> try exact aC
            · exact OpSpec.loadP rfl rfl rfl rfl h.rb rfl
            · exact OpSpec.loadP rfl rfl rfl rfl h.rb rfl
            · exact OpSpec.loadE rfl rfl rfl rfl h.ab hld
            · exact OpSpec.loadP rfl rfl rfl rfl h.rb rfl
            · exact OpSpec.loadE rfl rfl rfl rfl h.ab hld1
          exact S_round (i + 1) (by show s.all.length - (i + 1) < s.all.length - i; omega) ⟨hlt, hnx (by unfold hasP; rw [hb, hb2]; rfl)⟩ (.cons rfl (.cons rfl (.cons rfl (.cons hi1 (.nil _))))) rfl
      | false =>
        refine pao [.v (.ms L.aid L.av 0 s.all.length 3 false), .b true, .v (.ms L.aid L.av 0 s.all.length 3 false), .v .top, .v (.str s.all[i].job), .b false, .b false] rfl ?_ ?_
        · (repeat' with_reducible apply AllP_cons) <;> try exact aC
          · exact OpSpec.loadP rfl rfl rfl rfl h.rb rfl
          · exact OpSpec.loadP rfl rfl rfl rfl h.rb rfl
          · exact OpSpec.loadE rfl rfl rfl rfl h.ab hld
        exact S_round (i + 1) (by show s.all.length - (i + 1) < s.all.length - i; omega) ⟨hlt, hnx (by unfold hasP; rw [hb]; rfl)⟩ (.cons rfl (.cons rfl (.cons rfl (.cons hi1 (.nil _))))) rfl
    · have c1 : decide ((i : Int) < (s.all.length : Int)) = false := decide_eq_false (by omega)
      refine pao [.v (.ms L.aid L.av 0 s.all.length 3 false), .b false] rfl ?_ ?_
      · (repeat' with_reducible apply AllP_cons) <;> try exact aC
        · exact OpSpec.loadP rfl rfl rfl rfl h.rb rfl
      refine S_ret ⟨_, _, rfl, trivial, ?_, rfl⟩
      unfold idxP
      rw [find_noneP fun k hk => hno k hk (by omega)]; rfl
def manyP (l : List LE) (name : Nm) : Nat := l.countP fun x => x.job == name
theorem Many_ok (σ : Heap) (L : PL) (t : TM) (s : PB) (name : Nm) (h : PAt σ L t s) (hl : s.all.length ≤ 100000) :
    CallOk cx 31 [.ptr L.r 0 0, .str name] σ (fun o u => o = .ret (.int .i64 (manyP s.all name : Nat)) ∧ u = σ) :=
  callOk_intro (fun a w => Try.call31 a w) Try.func31 rfl Try.ntmps31 rfl fun B => by
    refine pao [] rfl ?_ ?_
    · (repeat' with_reducible apply AllP_cons) <;> try exact aC
    have hcl : ∀ m, manyP (s.all.take m) name ≤ s.all.length := fun m => Nat.le_trans List.countP_le_length (List.length_take_le' ..)
    refine S_while (α := Nat) (fun i => [(0, .ptr L.r 0 0), (1, .str name), (5, .int .i64 (manyP (s.all.take i) name : Nat)), (6, .int .i64 (i : Nat))]) (fun _ => σ) (fun i => i ≤ s.all.length) (fun i => s.all.length - i) 0
      (Nat.zero_le _) (.cons rfl (.cons rfl (.cons rfl (.cons rfl (.nil _))))) rfl ?_
    intro i hi
    by_cases hlt : i < s.all.length
    · have c1 : decide ((i : Int) < (s.all.length : Int)) = true := decide_eq_true (by omega)
      have hi1 : AV.int .i64 (IntKind.i64.wrap ((i : Int) + 1)) = .int .i64 ((i + 1 : Nat) : Int) := ai64 rfl (by omega)
      have hld := lsC_f hlt 0 (by decide)
      have hcs : manyP (s.all.take (i + 1)) name = manyP (s.all.take i) name + if s.all[i].job == name then 1 else 0 := by
        unfold manyP
        rw [List.take_succ_eq_append_getElem hlt, List.countP_append, List.countP_singleton]
      have hcm := hcl (i + 1)
      cases hb : s.all[i].job == name with
      | true =>
        rw [hb, if_pos rfl] at hcs
        have hc1 : AV.int .i64 (IntKind.i64.wrap (((manyP (s.all.take i) name : Nat) : Int) + 1)) = .int .i64 ((manyP (s.all.take (i + 1)) name : Nat) : Int) := ai64 (by rw [hcs]; rfl) (by omega)
        refine pao [.v (.ms L.aid L.av 0 s.all.length 3 false), .b true, .v (.ms L.aid L.av 0 s.all.length 3 false), .v .top, .v (.str s.all[i].job), .b true] rfl ?_ ?_
        · (repeat' with_reducible apply AllP_cons) <;> try exact aC
          · exact OpSpec.loadP rfl rfl rfl rfl h.rb rfl
          · exact OpSpec.loadP rfl rfl rfl rfl h.rb rfl
          · exact OpSpec.loadE rfl rfl rfl rfl h.ab hld
        exact S_round (i + 1) (by show s.all.length - (i + 1) < s.all.length - i; omega) hlt (.cons rfl (.cons rfl (.cons hc1 (.cons hi1 (.nil _))))) rfl
      | false =>
        rw [hb, if_neg (by simp)] at hcs
        have hc1 : AV.int .i64 ((manyP (s.all.take i) name : Nat) : Int) = .int .i64 ((manyP (s.all.take (i + 1)) name : Nat) : Int) := by rw [hcs]; rfl
        refine pao [.v (.ms L.aid L.av 0 s.all.length 3 false), .b true, .v (.ms L.aid L.av 0 s.all.length 3 false), .v .top, .v (.str s.all[i].job), .b false] rfl ?_ ?_
        · (repeat' with_reducible apply AllP_cons) <;> try exact aC
          · exact OpSpec.loadP rfl rfl rfl rfl h.rb rfl
          · exact OpSpec.loadP rfl rfl rfl rfl h.rb rfl
          · exact OpSpec.loadE rfl rfl rfl rfl h.ab hld
        exact S_round (i + 1) (by show s.all.length - (i + 1) < s.all.length - i; omega) hlt (.cons rfl (.cons rfl (.cons hc1 (.cons hi1 (.nil _))))) rfl
    · have c1 : decide ((i : Int) < (s.all.length : Int)) = false := decide_eq_false (by omega)
      refine pao [.v (.ms L.aid L.av 0 s.all.length 3 false), .b false] rfl ?_ ?_
      · (repeat' with_reducible apply AllP_cons) <;> try exact aC
        · exact OpSpec.loadP rfl rfl rfl rfl h.rb rfl
      have hii : i = s.all.length := Nat.le_antisymm hi (Nat.le_of_not_lt hlt)
      refine S_ret ⟨_, _, rfl, trivial, ?_, rfl⟩
      rw [hii, List.take_length]; rfl
end Go.Proofs.Ytopdpbcfgjijaaa
end
section
set_option linter.unusedVariables false
set_option linter.unusedSimpArgs false
set_option maxRecDepth 20000
set_option maxHeartbeats 4000000
namespace Go.Proofs.Ytopdpbcfgjijaaa
open Go Go.Ab
def pAddE (s : PB) (name : Nm) : Int := if isName name = false then 1 else if (s.names.findIdx? fun j => j == name).isSome = true then 6 else if s.names.length = 200 then 2 else 0
def pAdd (s : PB) (name : Nm) : PB := if pAddE s name = 0 then ⟨s.now, s.names ++ [name], s.sts ++ [1], s.trs ++ [0], s.all⟩ else s
structure ApP (L : PL) : Prop where
  rn : L.r ≠ L.nid
  rs : L.r ≠ L.sid
  rt : L.r ≠ L.tid
  ra : L.r ≠ L.aid
  ns : L.nid ≠ L.sid
  nt : L.nid ≠ L.tid
  na : L.nid ≠ L.aid
  st : L.sid ≠ L.tid
  sa : L.sid ≠ L.aid
  ta : L.tid ≠ L.aid
theorem PAt.ap {σ : Heap} {L : PL} {t : TM} {s : PB} (h : PAt σ L t s) : ApP L := by
  have := h.nd
  unfold idsP at this
  simp only [List.nodup_cons, List.mem_cons, List.not_mem_nil, or_false, not_or, not_false_eq_true, List.nodup_nil, and_true] at this
  obtain ⟨⟨a, b, c, d⟩, ⟨e, f, g⟩, ⟨i, j⟩, k⟩ := this
  exact ⟨a, b, c, d, e, f, g, i, j, k⟩
theorem keepP {σ : Heap} {L : PL} {id : Nat} {x : Nat × Option Box} (ho : OwnP L id) : QKeep σ (σ.set id x) (OwnP L) (OwnP L) := QKeep.refl.setO ho x
theorem PAdd_ok (σ : Heap) (L : PL) (t : TM) (s : PB) (name : Nm) (h : PAt σ L t s) (hs : name.length ≤ 9223372036854775807) (hl : s.names.length ≤ 1000 ∧ s.sts.length ≤ 1000 ∧ s.trs.length ≤ 1000) :
    CallOk cx 11 [.ptr L.r 0 0, .str name] σ (fun o u => o = .ret (.int .i64 (pAddE s name)) ∧ ∃ L', PAt u L' t (pAdd s name) ∧ L'.r = L.r ∧ QKeep σ u (OwnP L) (OwnP L')) :=
  callOk_intro (fun a w => Try.call11 a w) Try.func11 rfl Try.ntmps11 rfl fun B => by
    have hN := IsName_ok name hs
    obtain ⟨hl1, hl2, hl3⟩ := hl
    have hfn : ∀ s : Heap, Frzs s [.str name] [.str name] := fun s => .cons (.refl .str) (.nil _)
    have herr : pAddE s name ≠ 0 → ∃ L', PAt σ L' t (pAdd s name) ∧ L'.r = L.r ∧ QKeep σ σ (OwnP L) (OwnP L') := fun he => ⟨L, by unfold pAdd; rw [if_neg he]; exact h, rfl, QKeep.refl⟩
    cases g1 : isName name with
    | false =>
      rw [g1] at hN
      have e1 : pAddE s name = 1 := by unfold pAddE; rw [if_pos g1]
      refine pao [.v (.bool false), .b true] rfl ?_ ?_
      · (repeat' with_reducible apply AllP_cons) <;> try exact aC
        · exact ⟨_, hN, hfn _⟩
      exact S_ret ⟨_, _, rfl, trivial, by rw [e1]; rfl, herr (by rw [e1]; decide)⟩
    | true =>
      rw [g1] at hN
      have hA := At_ok σ L t s name h hl1
      cases g2 : s.names.findIdx? (fun j => j == name) with
      | some q =>
        have e1 : pAddE s name = 6 := by unfold pAddE; rw [if_neg (by rw [g1]; simp), if_pos (by rw [g2]; rfl)]
        have e2 : decide (idxP (fun j => j == name) s.names ≥ 0) = true := by unfold idxP; rw [g2]; exact decide_eq_true (by show (q : Int) ≥ 0; omega)
        refine pao [.v (.bool true), .b false, .k (.int .i64 (idxP (fun j => j == name) s.names)), .b true] rfl ?_ ?_
        · (repeat' with_reducible apply AllP_cons) <;> try exact aC
          · exact ⟨_, hN, hfn _⟩
        exact S_ret ⟨_, _, rfl, trivial, by rw [e1]; rfl, herr (by rw [e1]; decide)⟩
      | none =>
        have e2 : decide (idxP (fun j => j == name) s.names ≥ 0) = false := by unfold idxP; rw [g2]; rfl
        by_cases g3 : s.names.length = 200
        · have e1 : pAddE s name = 2 := by unfold pAddE; rw [if_neg (by rw [g1]; simp), if_neg (by rw [g2]; simp), if_pos g3]
          have e3 : ((s.names.length : Int) == 200) = true := by rw [g3]; rfl
          refine pao [.v (.bool true), .b false, .k (.int .i64 (idxP (fun j => j == name) s.names)), .b false, .v (.ms L.nid L.nv 0 s.names.length 1 false), .b true] rfl ?_ ?_
          · (repeat' with_reducible apply AllP_cons) <;> try exact aC
            · exact ⟨_, hN, hfn _⟩
            · exact OpSpec.loadP rfl rfl rfl rfl h.rb rfl
          exact S_ret ⟨_, _, rfl, trivial, by rw [e1]; rfl, herr (by rw [e1]; decide)⟩
        · have e1 : pAddE s name = 0 := by unfold pAddE; rw [if_neg (by rw [g1]; simp), if_neg (by rw [g2]; simp), if_neg g3]
          have e3 : ((s.names.length : Int) == 200) = false := beq_false_of_ne (by omega)
          have ep : pAdd s name = ⟨s.now, s.names ++ [name], s.sts ++ [1], s.trs ++ [0], s.all⟩ := by unfold pAdd; rw [if_pos e1]
          rw [e1, ep]
          have ap := h.ap
          obtain ⟨N1, hN1⟩ : ∃ N1 : Nat × Option Box, N1 = (L.nv + 1, some (.cells (texts (s.names ++ [name])) ⟨false, none⟩)) := ⟨_, rfl⟩
          obtain ⟨S1, hS1⟩ : ∃ S1 : Nat × Option Box, S1 = (L.sv + 1, some (.cells (intC (s.sts ++ [1])) ⟨false, none⟩)) := ⟨_, rfl⟩
          obtain ⟨T1, hT1⟩ : ∃ T1 : Nat × Option Box, T1 = (L.tv + 1, some (.cells (intC (s.trs ++ [0])) ⟨false, none⟩)) := ⟨_, rfl⟩
          obtain ⟨L2, hL2⟩ : ∃ L2 : PL, L2 = ⟨L.r, L.nid, L.sid, L.tid, L.aid, L.nv + 1, L.sv + 1, L.tv + 1, L.av⟩ := ⟨_, rfl⟩
          obtain ⟨R1, hR1⟩ : ∃ R1 : Nat × Option Box, R1 = (0, some (.cells [.int .i64 t.last, .int .i64 t.tries, .int .i64 t.twins, .int .i64 s.now, .ms L.nid (L.nv + 1) 0 (s.names.length + 1) 1 false, .ms L.sid L.sv 0 s.sts.length 1 false, .ms L.tid L.tv 0 s.trs.length 1 false, .ms L.aid L.av 0 s.all.length 3 false] ⟨false, some 36⟩)) := ⟨_, rfl⟩
          obtain ⟨R2, hR2⟩ : ∃ R2 : Nat × Option Box, R2 = (0, some (.cells [.int .i64 t.last, .int .i64 t.tries, .int .i64 t.twins, .int .i64 s.now, .ms L.nid (L.nv + 1) 0 (s.names.length + 1) 1 false, .ms L.sid (L.sv + 1) 0 (s.sts.length + 1) 1 false, .ms L.tid L.tv 0 s.trs.length 1 false, .ms L.aid L.av 0 s.all.length 3 false] ⟨false, some 36⟩)) := ⟨_, rfl⟩
          obtain ⟨R3, hR3⟩ : ∃ R3 : Nat × Option Box, R3 = (0, some (pbB t L2 ⟨s.now, s.names ++ [name], s.sts ++ [1], s.trs ++ [0], s.all⟩)) := ⟨_, rfl⟩
          have hr1 : (σ.set L.nid N1)[L.r]? = some (0, some (pbB t L s)) := (set_ne ap.rn).trans h.rb
          have hr2 : ((σ.set L.nid N1).set L.sid S1)[L.r]? = some (0, some (pbB t L s)) := (set_ne ap.rs).trans hr1
          have hr3 : (((σ.set L.nid N1).set L.sid S1).set L.tid T1)[L.r]? = some (0, some (pbB t L s)) := (set_ne ap.rt).trans hr2
          have hr4 : ((((σ.set L.nid N1).set L.sid S1).set L.tid T1).set L.r R1)[L.r]? = some R1 := set_eq hr3
          have hr5 : (((((σ.set L.nid N1).set L.sid S1).set L.tid T1).set L.r R1).set L.r R2)[L.r]? = some R2 := set_eq hr4
          refine pao [.v (.bool true), .b false, .k (.int .i64 (idxP (fun j => j == name) s.names)), .b false, .v (.ms L.nid L.nv 0 s.names.length 1 false), .b false] rfl ?_ ?_
          · (repeat' with_reducible apply AllP_cons) <;> try exact aC
            · exact ⟨_, hN, hfn _⟩
            · exact OpSpec.loadP rfl rfl rfl rfl h.rb rfl
          refine S_drawOL [(9, σ.set L.nid N1), (15, (σ.set L.nid N1).set L.sid S1), (21, ((σ.set L.nid N1).set L.sid S1).set L.tid T1), (24, (((σ.set L.nid N1).set L.sid S1).set L.tid T1).set L.r R1), (27, ((((σ.set L.nid N1).set L.sid S1).set L.tid T1).set L.r R1).set L.r R2)] _ 28 [.ms L.nid L.nv 0 s.names.length 1 false, .ms L.nid (L.nv + 1) 0 (s.names.length + 1) 1 false, .ms L.sid L.sv 0 s.sts.length 1 false, .ms L.sid (L.sv + 1) 0 (s.sts.length + 1) 1 false, .ms L.tid L.tv 0 s.trs.length 1 false, .ms L.tid (L.tv + 1) 0 (s.trs.length + 1) 1 false, .tup [], .tup []] _ _ rfl rfl rfl rfl rfl rfl ⟨⟨_, rfl, ?_⟩, ⟨_, rfl, ?_⟩, ⟨_, rfl, ?_⟩, ⟨_, rfl, ?_⟩, ⟨_, rfl, ?_⟩, ⟨_, rfl, ?_⟩, trivial⟩ ⟨fun o v ho hv => ?_, fun o v ho hv => ?_, fun o v ho hv => ?_, fun o v ho hv => ?_, fun o v ho hv => ?_, trivial⟩ rfl ?_
          · (repeat' with_reducible apply AllP_cons) <;> try exact aC
            all_goals exact OpSpec.loadP rfl rfl rfl rfl h.rb rfl
          · (repeat' with_reducible apply AllP_cons) <;> try exact aC
            all_goals exact OpSpec.loadP rfl rfl rfl rfl hr1 rfl
          · (repeat' with_reducible apply AllP_cons) <;> try exact aC
            all_goals exact OpSpec.loadP rfl rfl rfl rfl hr2 rfl
          · (repeat' with_reducible apply AllP_cons) <;> try exact aC
            all_goals exact OpSpec.loadP rfl rfl rfl rfl hr3 rfl
          · (repeat' with_reducible apply AllP_cons) <;> try exact aC
          · (repeat' with_reducible apply AllP_cons) <;> try exact aC
          · cases ho; cases hv
            exact specC_step rfl rfl (OpSpec.appendX (id := L.nid) (ver := L.nv) (off := 0) (len := s.names.length) (y := .str name) (cs := texts s.names) rfl rfl rfl rfl rfl (fun z hz => by rw [List.mem_singleton.1 (show z ∈ [AV.str name] from hz)]; rfl) h.nb (by rw [texts_len]; omega) (by show (s.names.length + 1) * 16 ≤ _; omega) (by omega) (by rw [hN1, ← texts_snoc]; rfl))
          · cases ho; cases hv
            exact specC_step rfl rfl (OpSpec.appendX (id := L.sid) (ver := L.sv) (off := 0) (len := s.sts.length) (y := .int .i64 1) (cs := intC s.sts) rfl rfl rfl rfl rfl (fun z hz => by rw [List.mem_singleton.1 (show z ∈ [AV.int .i64 1] from hz)]; rfl) ((set_ne (Ne.symm ap.ns)).trans h.sb) (by rw [intC_len]; omega) (by show (s.sts.length + 1) * 8 ≤ _; omega) (by omega) (by rw [hS1, intC_app]; rfl))
          · cases ho; cases hv
            exact specC_step rfl rfl (OpSpec.appendX (id := L.tid) (ver := L.tv) (off := 0) (len := s.trs.length) (y := .int .i64 0) (cs := intC s.trs) rfl rfl rfl rfl rfl (fun z hz => by rw [List.mem_singleton.1 (show z ∈ [AV.int .i64 0] from hz)]; rfl) ((set_ne (Ne.symm ap.st)).trans ((set_ne (Ne.symm ap.nt)).trans h.tb)) (by rw [intC_len]; omega) (by show (s.trs.length + 1) * 8 ≤ _; omega) (by omega) (by rw [hT1, intC_app]; rfl))
          · cases ho; cases hv
            refine specC_step rfl rfl (OpSpec.storeP (id := L.r) (gT := some 36) (cs := pbC t L s) (y := .ms L.nid (L.nv + 1) 0 (s.names.length + 1) 1 false) rfl rfl rfl rfl rfl rfl hr3 (lble rfl) ?_)
            rw [hR1]; rfl
          · cases ho; cases hv
            refine specC_step rfl rfl (OpSpec.storeP (id := L.r) (gT := some 36) (cs := [.int .i64 t.last, .int .i64 t.tries, .int .i64 t.twins, .int .i64 s.now, .ms L.nid (L.nv + 1) 0 (s.names.length + 1) 1 false, .ms L.sid L.sv 0 s.sts.length 1 false, .ms L.tid L.tv 0 s.trs.length 1 false, .ms L.aid L.av 0 s.all.length 3 false]) (y := .ms L.sid (L.sv + 1) 0 (s.sts.length + 1) 1 false) rfl rfl rfl rfl rfl rfl (hr4.trans (by rw [hR1])) (lble rfl) ?_)
            rw [hR2]; rfl
          refine pao [.f (.tup []) (fun t => t.set L.r R3)] rfl ?_ ?_
          · (repeat' with_reducible apply AllP_cons) <;> try exact aC
            · refine OpSpec.storeP (id := L.r) (gT := some 36) (cs := [.int .i64 t.last, .int .i64 t.tries, .int .i64 t.twins, .int .i64 s.now, .ms L.nid (L.nv + 1) 0 (s.names.length + 1) 1 false, .ms L.sid (L.sv + 1) 0 (s.sts.length + 1) 1 false, .ms L.tid L.tv 0 s.trs.length 1 false, .ms L.aid L.av 0 s.all.length 3 false]) (y := .ms L.tid (L.tv + 1) 0 (s.trs.length + 1) 1 false) rfl rfl rfl rfl rfl rfl (hr5.trans (by rw [hR2])) (lble rfl) ?_
              rw [hR3, hL2]
              unfold pbB pbC
              simp only [List.length_append, List.length_cons, List.length_nil]
              rfl
          have hid : idsP L2 = idsP L := by rw [hL2]; rfl
          have hO : OwnP L2 = OwnP L := by funext id; unfold OwnP; rw [hid]
          refine S_ret ⟨_, _, rfl, trivial, rfl, L2, ?_, by rw [hL2], ?_⟩
          · show PAt ((((((σ.set L.nid N1).set L.sid S1).set L.tid T1).set L.r R1).set L.r R2).set L.r R3) L2 t _
            refine ⟨?_, ?_, ?_, ?_, ?_, ?_, by rw [hid]; exact h.nd⟩
            · exact Alive.set' (Alive.set' (Alive.set' (Alive.set' (Alive.set' (Alive.set' h.al (by rw [hN1]; exact ⟨_, rfl⟩) _) (by rw [hS1]; exact ⟨_, rfl⟩) _) (by rw [hT1]; exact ⟨_, rfl⟩) _) (by rw [hR1]; exact ⟨_, rfl⟩) _) (by rw [hR2]; exact ⟨_, rfl⟩) _) (by rw [hR3]; exact ⟨_, rfl⟩) _
            · rw [show L2.r = L.r by rw [hL2], set_eq hr5, hR3]
            · rw [show L2.nid = L.nid by rw [hL2], show L2.nv = L.nv + 1 by rw [hL2], set_ne ap.rn.symm, set_ne ap.rn.symm, set_ne ap.rn.symm, set_ne ap.nt, set_ne ap.ns, set_eq h.nb, hN1]
            · rw [show L2.sid = L.sid by rw [hL2], show L2.sv = L.sv + 1 by rw [hL2], set_ne ap.rs.symm, set_ne ap.rs.symm, set_ne ap.rs.symm, set_ne ap.st, set_eq ((set_ne ap.ns.symm).trans h.sb), hS1]
            · rw [show L2.tid = L.tid by rw [hL2], show L2.tv = L.tv + 1 by rw [hL2], set_ne ap.rt.symm, set_ne ap.rt.symm, set_ne ap.rt.symm, set_eq ((set_ne ap.st.symm).trans ((set_ne ap.nt.symm).trans h.tb)), hT1]
            · rw [show L2.aid = L.aid by rw [hL2], show L2.av = L.av by rw [hL2], set_ne ap.ra.symm, set_ne ap.ra.symm, set_ne ap.ra.symm, set_ne ap.ta.symm, set_ne ap.sa.symm, set_ne ap.na.symm]; exact h.ab
          · rw [hO]
            exact (((((keepP (ownP.2 (.inr (.inl rfl)))).trans (keepP (ownP.2 (.inr (.inr (.inl rfl)))))).trans (keepP (ownP.2 (.inr (.inr (.inr (.inl rfl))))))).trans (keepP (ownP.2 (.inl rfl)))).trans (keepP (ownP.2 (.inl rfl)))).trans (keepP (ownP.2 (.inl rfl)))
end Go.Proofs.Ytopdpbcfgjijaaa
end
section
set_option linter.unusedVariables false
set_option linter.unusedSimpArgs false
set_option maxRecDepth 20000
set_option maxHeartbeats 4000000
namespace Go.Proofs.Ytopdpbcfgjijaaa
open Go Go.Ab
theorem lsC_app (a b : List LE) : lsC (a ++ b) = lsC a ++ lsC b := List.flatMap_append
theorem lsC_drop (l : List LE) {i : Nat} (h : i ≤ l.length) : (lsC l).drop (i * 3) = lsC (l.drop i) := by
  conv => lhs; rw [← List.take_append_drop i l, lsC_app]
  exact List.drop_left' (by rw [lsC_len, List.length_take, Nat.min_eq_left h])
theorem lsC_take (l : List LE) {i : Nat} (h : i ≤ l.length) : (lsC l).take (i * 3) = lsC (l.take i) := by
  conv => lhs; rw [← List.take_append_drop i l, lsC_app]
  exact List.take_left' (by rw [lsC_len, List.length_take, Nat.min_eq_left h])
theorem lsC_erase (l : List LE) {k : Nat} (h : k < l.length) : (lsC l).take (k * 3) ++ (lsC l).drop ((k + 1) * 3) = lsC (l.eraseIdx k) := by
  rw [lsC_take l (by omega), lsC_drop l h, ← lsC_app, List.eraseIdx_eq_take_drop_succ]
theorem delA (id ver m n sz : Nat) : AV.ms id ver (0 + (Option.getD none (0 : Int)).toNat * sz) ((Option.getD (some (m : Int)) (n : Int)).toNat - (Option.getD none (0 : Int)).toNat) sz true = .ms id ver 0 m sz true := by simp
theorem delB (id ver m n sz : Nat) (h : m < 1000000) : AV.ms id ver (0 + (Option.getD (some (IntKind.i64.wrap ((m : Int) + 1))) (0 : Int)).toNat * sz) ((Option.getD none (n : Int)).toNat - (Option.getD (some (IntKind.i64.wrap ((m : Int) + 1))) (0 : Int)).toNat) sz false = .ms id ver ((m + 1) * sz) (n - (m + 1)) sz false := by
  rw [show IntKind.i64.wrap ((m : Int) + 1) = ((m + 1 : Nat) : Int) from w64 rfl (by omega)]
  simp
theorem PAt.toA {σ : Heap} {L : PL} {t : TM} {s : PB} (h : PAt σ L t s) {τ : Heap} {id' ver' : Nat} {al : List LE} (hτ : Alive τ) (hp : id' = L.aid ∨ id' = σ.length) {L' : PL} (hL : L' = ⟨L.r, L.nid, L.sid, L.tid, id', L.nv, L.sv, L.tv, ver'⟩) {x : Nat × Option Box} (hx : (σ ++ τ)[id']? = some x) :
    PAt (((σ ++ τ).set L.r (0, some (pbB t L' ⟨s.now, s.names, s.sts, s.trs, al⟩))).set id' (ver', some (.cells (lsC al) ⟨false, none⟩))) L' t ⟨s.now, s.names, s.sts, s.trs, al⟩ := by
  subst hL
  have ap := h.ap
  have l1 := lt_of_get h.rb
  have l2 := lt_of_get h.nb
  have l3 := lt_of_get h.sb
  have l4 := lt_of_get h.tb
  have a1 := ap.ra
  have a2 := ap.na
  have a3 := ap.sa
  have a4 := ap.ta
  have n1 : L.r ≠ id' := by rcases hp with rfl | rfl <;> omega
  have n2 : L.nid ≠ id' := by rcases hp with rfl | rfl <;> omega
  have n3 : L.sid ≠ id' := by rcases hp with rfl | rfl <;> omega
  have n4 : L.tid ≠ id' := by rcases hp with rfl | rfl <;> omega
  refine ⟨Alive.set (Alive.set (alive_apps h.al hτ) _ _ _) _ _ _, ?_, ?_, ?_, ?_, ?_, ?_⟩
  · show ((((σ ++ τ).set L.r _).set id' _)[L.r]?) = _
    rw [set_ne n1, set_eq (apps_get h.rb)]
  · show ((((σ ++ τ).set L.r _).set id' _)[L.nid]?) = _
    rw [set_ne n2, set_ne (Ne.symm ap.rn)]; exact apps_get h.nb
  · show ((((σ ++ τ).set L.r _).set id' _)[L.sid]?) = _
    rw [set_ne n3, set_ne (Ne.symm ap.rs)]; exact apps_get h.sb
  · show ((((σ ++ τ).set L.r _).set id' _)[L.tid]?) = _
    rw [set_ne n4, set_ne (Ne.symm ap.rt)]; exact apps_get h.tb
  · show ((((σ ++ τ).set L.r _).set id' _)[id']?) = _
    exact set_eq (y := x) (by rw [set_ne (Ne.symm n1)]; exact hx)
  · show [L.r, L.nid, L.sid, L.tid, id'].Nodup
    simp only [List.nodup_cons, List.mem_cons, List.not_mem_nil, or_false, not_or, not_false_eq_true, List.nodup_nil, and_true]
    exact ⟨⟨ap.rn, ap.rs, ap.rt, n1⟩, ⟨ap.ns, ap.nt, n2⟩, ⟨ap.st, n3⟩, n4⟩
theorem keepPS {σ τ : Heap} {L L' : PL} {id' r : Nat} {x y : Nat × Option Box} (hr : OwnP L r) (hp : OwnP L id' ∨ id' = σ.length) (hL : ∀ id, OwnP L' id → OwnP L id ∨ id = id') : QKeep σ (((σ ++ τ).set r x).set id' y) (OwnP L) (OwnP L') := by
  refine ⟨by simp, fun id hid hno => ?_, fun id ho => ?_⟩
  · have n1 : id ≠ id' := by
      rintro rfl
      rcases hp with h | h
      · exact hno h
      · omega
    have n2 : id ≠ r := by rintro rfl; exact hno hr
    rw [set_ne n1, set_ne n2, List.getElem?_append_left hid]
  · rcases hL id ho with h | rfl
    · exact .inl h
    · rcases hp with h | h
      · exact .inl h
      · exact .inr (by omega)
theorem PAt.setS {σ : Heap} {L : PL} {t : TM} {s : PB} (h : PAt σ L t s) (st : List Int) (hl : st.length = s.sts.length) : PAt (σ.set L.sid (L.sv, some (.cells (intC st) ⟨false, none⟩))) L t ⟨s.now, s.names, st, s.trs, s.all⟩ := by
  have ap := h.ap
  refine ⟨Alive.set h.al _ _ _, ?_, ?_, set_eq h.sb, ?_, ?_, h.nd⟩
  · rw [set_ne ap.rs, h.rb]
    unfold pbB pbC
    rw [hl]
  · rw [set_ne ap.ns]; exact h.nb
  · rw [set_ne ap.st.symm]; exact h.tb
  · rw [set_ne ap.sa.symm]; exact h.ab
theorem intC_set {l : List Int} {i : Nat} (h : i < l.length) (x : Int) : setRange (intC l) (offN 0 (mulN ((i : Int)).toNat 1)) [.int .i64 x] = intC (l.set i x) := by
  rw [offN_eq, mulN_eq, Int.toNat_natCast, Nat.zero_add, Nat.mul_one, setRange_1 (by rw [intC_len]; exact h)]
  unfold intC
  rw [List.map_set]
def pErs (s : PB) (i : Nat) : PB := ⟨s.now, s.names, s.sts, s.trs, s.all.eraseIdx i⟩
def pSt (s : PB) (a : Nat) (x : Int) : PB := ⟨s.now, s.names, s.sts.set a x, s.trs, s.all⟩
def pFree (s : PB) (i a : Nat) (job : Nm) : Bool := manyP (s.all.eraseIdx i) job == 0 && s.sts.getD a 0 == 2
def pDrop (t : TM) (s : PB) (i a : Nat) (job : Nm) : PB := if pFree s i a job = true then pSt (pErs s i) a (if s.trs.getD a 0 = t.tries then 4 else 1) else pErs s i
end Go.Proofs.Ytopdpbcfgjijaaa
end
section
set_option linter.unusedVariables false
set_option linter.unusedSimpArgs false
set_option maxRecDepth 20000
set_option maxHeartbeats 4000000
namespace Go.Proofs.Ytopdpbcfgjijaaa
open Go Go.Ab
theorem PDrop_ok (σ : Heap) (L : PL) (t : TM) (s : PB) (i a : Nat) (job : Nm) (h : PAt σ L t s) (hi : i < s.all.length) (hal : s.all.length ≤ 100000) (hjob : s.all[i].job = job) (ha : (s.names.findIdx? fun j => j == job) = some a) (hs1 : a < s.sts.length) (hs2 : a < s.trs.length) (hnl : s.names.length ≤ 1000) :
    CallOk cx 34 [.ptr L.r 0 0, .int .i64 (i : Nat)] σ (fun o u => o = .ret (.bool (pFree s i a job)) ∧ ∃ L', PAt u L' t (pDrop t s i a job) ∧ L'.r = L.r ∧ QKeep σ u (OwnP L) (OwnP L')) :=
  callOk_intro (fun a w => Try.call34 a w) Try.func34 rfl Try.ntmps34 rfl fun B => by
    have hld := lsC_f hi 0 (by decide)
    refine pao [.v (.ms L.aid L.av 0 s.all.length 3 false), .v .top, .v (.str s.all[i].job)] rfl ?_ ?_
    · (repeat' with_reducible apply AllP_cons) <;> try exact aC
      · exact OpSpec.loadP rfl rfl rfl rfl h.rb rfl
      · exact OpSpec.loadE rfl rfl rfl rfl h.ab hld
    obtain ⟨id', ver', fl', τ, hdc⟩ := DelC.ex σ L.aid L.av (lsC s.all) 3 hi
    obtain ⟨cs', hcs1, hcs2⟩ := hdc.box (lsC_len _) h.ab
    rw [lsC_erase _ hi] at hcs2
    refine S_drawOC (σ ++ τ) 15 16 [.ms L.aid L.av 0 s.all.length 3 false, .ms L.aid L.av 0 s.all.length 3 false, .ms id' ver' 0 (s.all.length - 1) 3 fl'] rfl rfl rfl rfl (fun t => rfl) (fun u hu => ?_) (fun o v ho hv => ?_) ?_
    · have hlr : u[L.r]? = some (0, some (pbB t L s)) := by
        rcases hu with rfl | rfl
        · exact h.rb
        · exact apps_get h.rb
      (repeat' with_reducible apply AllP_cons) <;> try exact aC
      · exact OpSpec.loadP rfl rfl rfl rfl hlr rfl
      · exact OpSpec.loadP rfl rfl rfl rfl hlr rfl
    · cases ho; cases hv
      exact specC_step rfl rfl (OpSpec.delS (cs := lsC s.all) (f2 := false) hdc rfl rfl rfl rfl rfl (delA (n := s.all.length) ..) rfl (delB _ _ _ _ _ (by omega)) h.al h.ab (lsC_len _) (lsC_one _) (by show s.all.length * 32 ≤ _; omega) (by omega))
    refine S_unfull (t := 30) rfl ⟨.skip, _, .inr ⟨_, _, _, rfl⟩⟩ ?_
    obtain ⟨al, hald⟩ : ∃ al, al = s.all.eraseIdx i := ⟨_, rfl⟩
    have hall : al.length = s.all.length - 1 := by rw [hald, List.length_eraseIdx_of_lt hi]
    obtain ⟨L2, hL2⟩ : ∃ L2 : PL, L2 = ⟨L.r, L.nid, L.sid, L.tid, id', L.nv, L.sv, L.tv, ver'⟩ := ⟨_, rfl⟩
    obtain ⟨R2, hR2⟩ : ∃ R2 : Nat × Option Box, R2 = (0, some (pbB t L2 ⟨s.now, s.names, s.sts, s.trs, al⟩)) := ⟨_, rfl⟩
    have h3 := h.toA (al := al) hdc.alive hdc.place hL2 hcs1
    have hk3 : QKeep σ (((σ ++ τ).set L.r R2).set id' (ver', some (.cells (lsC al) ⟨false, none⟩))) (OwnP L) (OwnP L2) := keepPS (ownP.2 (.inl rfl)) (by
      rcases hdc.place with h' | h'
      · exact .inl (ownP.2 (.inr (.inr (.inr (.inr h')))))
      · exact .inr h') fun id ho => by
      rw [hL2] at ho
      rcases ownP.1 ho with h' | h' | h' | h' | h'
      · exact .inl (ownP.2 (.inl h'))
      · exact .inl (ownP.2 (.inr (.inl h')))
      · exact .inl (ownP.2 (.inr (.inr (.inl h'))))
      · exact .inl (ownP.2 (.inr (.inr (.inr (.inl h')))))
      · exact .inr h'
    rw [← hR2] at h3
    refine pao [.f (.tup []) (fun u => u.set L.r R2), .s] rfl ?_ ?_
    · (repeat' with_reducible apply AllP_cons) <;> try exact aC
      refine OpSpec.storeP (id := L.r) (gT := some 36) (cs := pbC t L s) (y := .ms id' ver' 0 (s.all.length - 1) 3 false) rfl rfl rfl rfl rfl rfl (apps_get h.rb) (lble rfl) ?_
      rw [hR2, hL2, ← hall]; rfl
    have n1 : L.r ≠ id' := by
      have := lt_of_get h.rb
      rcases hdc.place with h' | h'
      · rw [h']; exact h.ap.ra
      · omega
    have hcx : ((σ ++ τ).set L.r R2)[id']? = some (ver', some (.cells cs' ⟨false, none⟩)) := by rw [set_ne (Ne.symm n1)]; exact hcs1
    refine S_cut ((s.all.length - 1) * 3) hcx ⟨.skip, _, .inr ⟨_, _, _, rfl⟩⟩ ?_
    rw [hcs2, ← hald]
    obtain ⟨σ3, hσ3⟩ : ∃ σ3, σ3 = ((σ ++ τ).set L.r R2).set id' (ver', some (.cells (lsC al) ⟨false, none⟩)) := ⟨_, rfl⟩
    rw [← hσ3] at h3 hk3 ⊢
    have hr2 : L2.r = L.r := by rw [hL2]
    have hs2' : L2.sid = L.sid ∧ L2.sv = L.sv ∧ L2.tid = L.tid ∧ L2.tv = L.tv := by rw [hL2]; exact ⟨rfl, rfl, rfl, rfl⟩
    obtain ⟨hsid, hsv, htid, htv⟩ := hs2'
    have hAt := At_ok σ3 L2 t _ job h3 hnl
    have hMn := Many_ok σ3 L2 t _ job h3 (by show al.length ≤ 100000; omega)
    rw [hr2] at hAt hMn
    have hix : idxP (fun j => j == job) s.names = (a : Int) := by unfold idxP; rw [ha]
    have hAt : CallOk cx 22 [.ptr L.r 0 0, .str s.all[i].job] σ3 (fun o u => o = .ret (.int .i64 (a : Int)) ∧ u = σ3) := by rw [hjob, ← hix]; exact hAt
    have hMn : CallOk cx 31 [.ptr L.r 0 0, .str s.all[i].job] σ3 (fun o u => o = .ret (.int .i64 (manyP al job : Nat)) ∧ u = σ3) := by rw [hjob]; exact hMn
    have hrb := h3.rb
    rw [hr2] at hrb
    have hsb := h3.sb
    rw [hsid, hsv] at hsb
    have htb := h3.tb
    rw [htid, htv] at htb
    have hsx := intC_at hs1
    have htx := intC_at hs2
    have hpe : pErs s i = ⟨s.now, s.names, s.sts, s.trs, al⟩ := by unfold pErs; rw [hald]
    have hgs : s.sts.getD a 0 = s.sts[a] := by simp [List.getD, hs1]
    have hgt : s.trs.getD a 0 = s.trs[a] := by simp [List.getD, hs2]
    by_cases hm0 : manyP al job = 0
    case neg =>
      have c1 : decide (((manyP al job : Nat) : Int) > 0) = true := decide_eq_true (by omega)
      have hf : pFree s i a job = false := by unfold pFree; rw [← hald]; simp [hm0]
      have hd : pDrop t s i a job = pErs s i := by unfold pDrop; rw [if_neg (by rw [hf]; simp)]
      refine pao [.k (.int .i64 (a : Int)), .k (.int .i64 (manyP al job : Nat)), .b true, .b true] rfl ?_ ?_
      · (repeat' with_reducible apply AllP_cons) <;> try exact aC
      exact S_ret ⟨_, _, rfl, trivial, by rw [hf]; rfl, L2, by rw [hd, hpe]; exact h3, hr2, hk3⟩
    have c1 : decide (((manyP al job : Nat) : Int) > 0) = false := by rw [hm0]; rfl
    by_cases hst : s.sts[a] = 2
    case neg =>
      have c2 : (s.sts[a] != 2) = true := by simp [hst]
      have hf : pFree s i a job = false := by unfold pFree; rw [hgs]; simp [hst]
      have hd : pDrop t s i a job = pErs s i := by unfold pDrop; rw [if_neg (by rw [hf]; simp)]
      refine pao [.k (.int .i64 (a : Int)), .k (.int .i64 (manyP al job : Nat)), .b false, .v (.ms L.sid L.sv 0 s.sts.length 1 false), .v .top, .v (.int .i64 s.sts[a]), .b true] rfl ?_ ?_
      · (repeat' with_reducible apply AllP_cons) <;> try exact aC
        · exact OpSpec.loadP rfl rfl rfl rfl hrb (by rw [hL2]; rfl)
        · exact OpSpec.loadE rfl rfl rfl rfl hsb hsx
      exact S_ret ⟨_, _, rfl, trivial, by rw [hf]; rfl, L2, by rw [hd, hpe]; exact h3, hr2, hk3⟩
    have c2 : (s.sts[a] != 2) = false := by simp [hst]
    have hf : pFree s i a job = true := by unfold pFree; rw [← hald, hgs, hm0, hst]; rfl
    obtain ⟨S1, hS1⟩ : ∃ S1 : Nat × Option Box, S1 = (L.sv, some (.cells (intC (s.sts.set a 1)) ⟨false, none⟩)) := ⟨_, rfl⟩
    have h4 := h3.setS (s.sts.set a 1) (by rw [List.length_set])
    rw [hsid, hsv, ← hS1] at h4
    have hrb4 := h4.rb
    rw [hr2] at hrb4
    have htb4 := h4.tb
    rw [htid, htv] at htb4
    have hsb4 := h4.sb
    rw [hsid, hsv] at hsb4
    have hok : OwnP L2 L.sid := by rw [← hsid]; exact ownP.2 (.inr (.inr (.inl rfl)))
    have hk4 : QKeep σ (σ3.set L.sid S1) (OwnP L) (OwnP L2) := hk3.trans (keepP hok)
    refine pao [.k (.int .i64 (a : Int)), .k (.int .i64 (manyP al job : Nat)), .b false, .v (.ms L.sid L.sv 0 s.sts.length 1 false), .v .top, .v (.int .i64 s.sts[a]), .b false, .v (.ms L.sid L.sv 0 s.sts.length 1 false), .v .top, .f (.tup []) (fun u => u.set L.sid S1)] rfl ?_ ?_
    · (repeat' with_reducible apply AllP_cons) <;> try exact aC
      · exact OpSpec.loadP rfl rfl rfl rfl hrb (by rw [hL2]; rfl)
      · exact OpSpec.loadE rfl rfl rfl rfl hsb hsx
      · exact OpSpec.loadP rfl rfl rfl rfl hrb (by rw [hL2]; rfl)
      · refine OpSpec.storeX (id := L.sid) (off := offN 0 (mulN ((a : Int)).toNat 1)) (cs := intC s.sts) (y := .int .i64 1) rfl rfl rfl rfl rfl rfl hsb (show offN 0 (mulN ((a : Int)).toNat 1) + 1 ≤ (intC s.sts).length by rw [offN_eq, mulN_eq, Int.toNat_natCast, intC_len]; omega) ?_
        have e0 := intC_set hs1 1
        rw [hS1, ← e0]; rfl
    refine S_drawO 13 [.ms L.tid L.tv 0 s.trs.length 1 false, .top, .int .i64 s.trs[a], .int .i64 t.tries] rfl rfl rfl rfl ?_ ?_
    · (repeat' with_reducible apply AllP_cons) <;> try exact aC
      · exact OpSpec.loadP rfl rfl rfl rfl hrb4 (by rw [hL2]; rfl)
      · exact OpSpec.loadE rfl rfl rfl rfl htb4 htx
      · exact OpSpec.loadP rfl rfl rfl rfl hrb4 rfl
    by_cases htr : s.trs[a] = t.tries
    · have c3 : (s.trs[a] == t.tries) = true := by simp [htr]
      obtain ⟨S2, hS2⟩ : ∃ S2 : Nat × Option Box, S2 = (L.sv, some (.cells (intC (s.sts.set a 4)) ⟨false, none⟩)) := ⟨_, rfl⟩
      have h5 := h4.setS (s.sts.set a 4) (by show (s.sts.set a 4).length = (s.sts.set a 1).length; rw [List.length_set, List.length_set])
      rw [hsid, hsv, ← hS2] at h5
      have hd : pDrop t s i a job = ⟨s.now, s.names, s.sts.set a 4, s.trs, al⟩ := by
        unfold pDrop; rw [if_pos hf, hgt, if_pos htr]; unfold pSt; rw [hpe]
      refine pao [.b true, .v (.ms L.sid L.sv 0 s.sts.length 1 false), .v .top, .f (.tup []) (fun u => u.set L.sid S2)] rfl ?_ ?_
      · (repeat' with_reducible apply AllP_cons) <;> try exact aC
        · exact OpSpec.loadP rfl rfl rfl rfl hrb4 (by rw [hL2]; unfold pbC; simp)
        · refine OpSpec.storeX (id := L.sid) (off := offN 0 (mulN ((a : Int)).toNat 1)) (cs := intC (s.sts.set a 1)) (y := .int .i64 4) rfl rfl rfl rfl rfl rfl hsb4 (show offN 0 (mulN ((a : Int)).toNat 1) + 1 ≤ (intC (s.sts.set a 1)).length by rw [offN_eq, mulN_eq, Int.toNat_natCast, intC_len, List.length_set]; omega) ?_
          have e0 := intC_set (l := s.sts.set a 1) (i := a) (by rw [List.length_set]; exact hs1) 4
          rw [List.set_set] at e0
          rw [hS2, ← e0]; rfl
      exact S_ret ⟨_, _, rfl, trivial, by rw [hf]; rfl, L2, by rw [hd]; exact h5, hr2, hk4.trans (keepP hok)⟩
    · have c3 : (s.trs[a] == t.tries) = false := by simp [htr]
      have hd : pDrop t s i a job = ⟨s.now, s.names, s.sts.set a 1, s.trs, al⟩ := by
        unfold pDrop; rw [if_pos hf, hgt, if_neg htr]; unfold pSt; rw [hpe]
      refine pao [.b false] rfl ?_ ?_
      · (repeat' with_reducible apply AllP_cons) <;> try exact aC
      exact S_ret ⟨_, _, rfl, trivial, by rw [hf]; rfl, L2, by rw [hd]; exact h4, hr2, hk4⟩
end Go.Proofs.Ytopdpbcfgjijaaa
end
section
set_option linter.unusedVariables false
set_option linter.unusedSimpArgs false
set_option maxRecDepth 20000
set_option maxHeartbeats 4000000
namespace Go.Proofs.Ytopdpbcfgjijaaa
open Go Go.Ab
def lessN (s : List UInt8) : List (List UInt8) → Nat
  | [] => 0
  | x :: r => if Op.bytesLess x s = true then lessN s r + 1 else 0
def addT (l : List (List UInt8)) (s : List UInt8) : List (List UInt8) := if l[lessN s l]? = some s then l else l.take (lessN s l) ++ s :: l.drop (lessN s l)
theorem lessN_le (s : List UInt8) : ∀ l : List (List UInt8), lessN s l ≤ l.length
  | [] => Nat.le_refl _
  | x :: r => by
    rw [lessN]
    split
    · have := lessN_le s r; rw [List.length_cons]; omega
    · exact Nat.zero_le _
theorem lessN_lt {s : List UInt8} : ∀ {l : List (List UInt8)} {i : Nat} (hi : i < l.length), i < lessN s l → Op.bytesLess l[i] s = true
  | x :: r, i, hi, h => by
    rw [lessN] at h
    split at h
    · rename_i hx
      cases i with
      | zero => exact hx
      | succ i => exact lessN_lt (l := r) (by simpa using hi) (by omega)
    · omega
theorem lessN_at {s : List UInt8} : ∀ {l : List (List UInt8)} (h : lessN s l < l.length), Op.bytesLess l[lessN s l] s = false
  | x :: r, h => by
    by_cases hx : Op.bytesLess x s = true
    · have e : lessN s (x :: r) = lessN s r + 1 := by rw [lessN, if_pos hx]
      have h' : lessN s r < r.length := by rw [e, List.length_cons] at h; omega
      have := lessN_at h'
      simp only [e, List.getElem_cons_succ]
      exact this
    · have e : lessN s (x :: r) = 0 := by rw [lessN, if_neg hx]
      simp only [e, List.getElem_cons_zero]
      simpa using hx
theorem txl (x : List (List UInt8)) : (texts x).length = x.length := List.length_map ..
theorem AddText_ok {fl : Bool} (l : List (List UInt8)) (s : List UInt8) (hl : l.length ≤ 1000000000) : Calc cx 35 [.sl true fl 1 (texts l), .str s] (.sl true false 1 (texts (addT l s))) :=
  pure_intro (fun a w => Try.call35 a w) Try.func35 rfl Try.ntmps35 rfl (.sl (fun _ => rfl) (texts_any _)) fun B => by
    have htl : (texts l).length = l.length := by simp [texts]
    have hle := lessN_le s l
    refine pB [] rfl ?_
    refine S_while (α := Nat) (fun i => [(0, .sl true fl 1 (texts l)), (1, .str s), (5, .int .i64 (i : Nat))]) (fun _ => []) (fun i => i ≤ lessN s l) (fun i => l.length - i) 0
      (Nat.zero_le _) (.cons rfl (.cons rfl (.cons rfl (.nil _)))) rfl ?_
    intro i hi
    have hi : i ≤ lessN s l := hi
    have hT : cutL (some (i : Int)) none (texts l) = texts (l.drop i) := by simp [cutL, texts]
    have hD : cutL none (some (i : Int)) (texts l) = texts (l.take i) := by simp [cutL, texts]
    have hone' : ∀ (x : List (List UInt8)), ∀ y ∈ texts x, y.one = true := by
      intro x y hy
      obtain ⟨t, _, rfl⟩ := List.mem_map.1 hy; rfl
    have hone : ∀ {xs : List AV} (x : List (List UInt8)), xs = texts x → ∀ y ∈ flatA 1 xs, y.one = true := by
      intro xs x hx y hy
      have hy : y ∈ xs := hy
      rw [hx] at hy
      exact hone' x y hy
    by_cases hlt : i < l.length
    · have e1 : decide ((i : Int) < (((texts l).length : Nat) : Int)) = true := decide_eq_true (by omega)
      have g1 : (texts l)[(i : Int).toNat]? = some (.str l[i]) := by rw [Int.toNat_natCast]; simp [texts, List.getElem?_eq_getElem hlt]
      by_cases hil : i < lessN s l
      · have e2 := lessN_lt hlt hil
        refine pB [.b true, .v (.str l[i]), .b true] rfl ?_
        exact S_round (i + 1) (by show l.length - (i + 1) < l.length - i; omega) hil (.cons rfl (.cons rfl (.cons (nX (by omega)) (.nil _)))) rfl
      · have hie : i = lessN s l := by omega
        have e2 : Op.bytesLess l[i] s = false := by subst hie; exact lessN_at hlt
        by_cases heq : l[i] = s
        · have e3 : (l[i] == s) = true := by simpa using heq
          have hres : addT l s = l := by unfold addT; rw [← hie, List.getElem?_eq_getElem hlt, heq, if_pos rfl]
          rw [hres]
          refine pB [.b true, .v (.str l[i]), .b false, .b true, .v (.str l[i]), .b true] rfl ?_
          refine S_ret ⟨_, _, rfl, trivial, _, rfl, ?_⟩
          show Frz true [] (.sl true fl 1 (texts l)) (.sl true false 1 (texts l))
          exact .full (fun _ => rfl) (texts_any l)
        · have e3 : (l[i] == s) = false := by simpa using heq
          have hres : addT l s = l.take i ++ s :: l.drop i := by unfold addT; rw [← hie, List.getElem?_eq_getElem hlt, if_neg (fun h => heq (Option.some.inj h))]
          rw [hres]
          refine pa [.b true, .v (.str l[i]), .b false, .b true, .v (.str l[i]), .b false, .d 9 10 [] (fun _ => [(0, some (.cells (.str s :: texts (l.drop i)) ⟨false, none⟩))]) [.ms 0 0 0 ((l.drop i).length + 1) 1 false]] rfl ?_ ?_
          · (repeat' with_reducible apply AllP_cons) <;> try exact aC
            · exact hone _ hT
            · exact hone _ hT
            · rw [hT, txl, List.length_drop]; left; omega
            · show (1 + (cutL (some (i : Int)) none (texts l)).length) * 16 ≤ 140737488355328
              rw [hT, txl, List.length_drop]; omega
            · show 1 + (cutL (some (i : Int)) none (texts l)).length ≤ 9223372036854775807
              rw [hT, txl, List.length_drop]; omega
            · show AV.ms 0 0 0 (1 + (cutL (some (i : Int)) none (texts l)).length) 1 false = _
              rw [hT, txl, Nat.add_comm]
            · show ([(0, some (.cells ([.str s] ++ cutL (some (i : Int)) none (texts l)) ⟨false, none⟩))] : Heap) = _
              rw [hT]; rfl
            · show 0 + ((l.drop i).length + 1) * 1 ≤ (AV.str s :: texts (l.drop i)).length
              rw [List.length_cons, txl]; omega
            · intro y hy
              have hy : y ∈ (AV.str s :: texts (l.drop i)) := List.mem_of_mem_take hy
              rcases List.mem_cons.1 hy with rfl | hy
              · rfl
              · obtain ⟨t, _, rfl⟩ := List.mem_map.1 hy; rfl
            · exact hone _ hD
            · show ((cutL none (some (i : Int)) (texts l)).length + ((l.drop i).length + 1)) * 16 ≤ 140737488355328
              rw [hD, txl, List.length_take, List.length_drop]; omega
            · rw [hD, txl, List.length_take, List.length_drop]; omega
          refine S_ret ⟨_, _, rfl, trivial, _, rfl, ?_⟩
          show Frz true [(0, some (.cells (.str s :: texts (l.drop i)) ⟨false, none⟩)), (0, some (.cells (cutL none (some (i : Int)) (texts l) ++ (AV.str s :: texts (l.drop i)).take (((l.drop i).length + 1) * 1)) ⟨false, none⟩))] (.ms 1 0 0 ((cutL none (some (i : Int)) (texts l)).length + ((l.drop i).length + 1)) 1 false) _
          have hxs : texts (l.take i ++ s :: l.drop i) = texts (l.take i) ++ (AV.str s :: texts (l.drop i)) := by simp [texts]
          rw [hD, List.take_of_length_le (l := (AV.str s :: texts (l.drop i))) (by rw [List.length_cons, txl]; omega), ← hxs]
          exact Frz.ms1 rfl (hone' _) (by rw [hxs, List.length_append, List.length_cons, txl, txl]) (texts_any _)
    · have hie : i = l.length := by omega
      have hin : lessN s l = l.length := by omega
      have e1 : decide ((i : Int) < (((texts l).length : Nat) : Int)) = false := decide_eq_false (by omega)
      have hres : addT l s = l ++ [s] := by unfold addT; rw [hin, List.getElem?_eq_none (Nat.le_refl _), if_neg (by simp), List.take_length, List.drop_length]
      rw [hres]
      refine pa [.b false, .b false, .b false, .b false, .d 9 10 [1000001] (fun σ => σ) [.sl true true 1 [.str s]]] rfl ?_ ?_
      · (repeat' with_reducible apply AllP_cons) <;> try exact aC
        · exact OpSpec.append0 (st := true) (fl := true) (st' := true) (fl' := _) (sz := 1) rfl rfl rfl rfl (by show AV.sl true _ 1 (cutL (some (i : Int)) none (texts l)) = _; rw [hT, hie, List.drop_length]; rfl)
        · exact hone _ hD
        · show ((cutL none (some (i : Int)) (texts l)).length + 1) * 16 ≤ 140737488355328
          rw [hD, txl, List.length_take]; omega
        · show (cutL none (some (i : Int)) (texts l)).length + 1 ≤ 9223372036854775807
          rw [hD, txl, List.length_take]; omega
      refine S_ret ⟨_, _, rfl, trivial, _, rfl, ?_⟩
      show Frz true [(0, some (.cells (cutL none (some (i : Int)) (texts l) ++ [.str s]) ⟨false, none⟩))] (.ms 0 0 0 ((cutL none (some (i : Int)) (texts l)).length + 1) 1 false) _
      have hxs : texts (l ++ [s]) = texts l ++ [.str s] := by simp [texts]
      rw [hD, hie, List.take_length, ← hxs]
      exact Frz.ms1 rfl (hone' _) (by rw [hxs, List.length_append]; rfl) (texts_any _)
end Go.Proofs.Ytopdpbcfgjijaaa
end
