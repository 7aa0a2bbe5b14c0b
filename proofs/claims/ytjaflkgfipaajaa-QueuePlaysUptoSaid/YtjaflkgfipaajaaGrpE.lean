/-
  Texts of our own, in one file.
-/
import Derived.Test.YtjaflkgfipaajaaGrpD
import Derived.WideShapes
section
set_option linter.unusedVariables false
set_option linter.unusedSimpArgs false
set_option maxRecDepth 20000
set_option maxHeartbeats 4000000
namespace Go.Proofs.Ytjaflkgfipaajaa
open Go Go.Ab
def wtQ (ring : List QT) (num : Int) : List Nm := match ring.findIdx? (fun t => t.num == num) with
  | some i => match ring[i]? with
    | some t => t.jobs.map QJ.name
    | none => []
  | none => []
theorem Sim.wait {quan : Int} {ring : List QT} {s : RS} (h : Sim ring s) (hok : QOk quan ring) (num : Int) : (s.jobs.filter (fun j => j.ten == num)).map QJ.name = wtQ ring num := by
  unfold wtQ
  cases hf : ring.findIdx? (fun t => t.num == num) with
  | none => rw [find_no.1 ((h.none_iff hok).2 hf)]; rfl
  | some i =>
    obtain ⟨hi, hie, _⟩ := List.findIdx?_eq_some_iff_getElem.1 hf
    have hie : ring[i].num = num := by simpa using hie
    simp only [List.getElem?_eq_getElem hi]
    rw [h.fil _ (List.getElem_mem hi), hie]
theorem alloc_last {σ : Heap} (h : Alive σ) (b : Box) : allocH σ b = (σ.length, 0, σ ++ [(0, some b)]) := h.alloc b
theorem texts_snoc (l : List Nm) (x : Nm) : texts l ++ [.str x] = texts (l ++ [x]) := by simp [texts]
theorem Waiting_ok (σ : Heap) (q rid rv : Nat) (es : List QL) (quan : Int) (ring : List QT) (num : Int) (h : QAt σ q rid rv es quan ring) (hok : QOk quan ring) :
    CallOk cx 20 [.ptr q 0 0, .int .i64 num] σ (fun o t => ∃ w wv, o = .ret (.ms w wv 0 (wtQ ring num).length 1 false) ∧ σ.length ≤ w ∧ t[w]? = some (wv, some (.cells (texts (wtQ ring num)) ⟨false, none⟩)) ∧ QAt t q rid rv es quan ring ∧ QKeep σ t (Own q rid es) (Own q rid es)) :=
  callOk_intro (fun a w => Try.call20 a w) Try.func20 rfl Try.ntmps20 rfl fun B => by
    have hrl := hok.len
    have hmn := hok.mn
    have hat := at_ok σ q rid rv es quan ring num h (by omega)
    obtain ⟨b1, hb1⟩ : ∃ b1 : Nat × Option Box, b1 = (0, some (.cells [.int .i64 num] ⟨false, none⟩)) := ⟨_, rfl⟩
    have h1 : QAt (σ ++ [b1]) q rid rv es quan ring := by rw [hb1]; exact h.app _ _
    have hl1 : (σ ++ [b1]).length = σ.length + 1 := by simp
    refine pao [.f (.int .i64 (atQ ring num)) (fun t => t ++ [b1]), .s] rfl ?_ ?_
    · (repeat' with_reducible apply AllP_cons) <;> try exact aC
      · rw [hb1]; exact hat
    refine S_heap (σ ++ [b1]) rfl ?_
    refine S_ghostF (t := 5) (gid := σ.length + 1) (gver := 0) (σ' := σ ++ [b1] ++ [(0, some (.cells [] ⟨false, none⟩))]) 1 ⟨false, none⟩ rfl (by rw [alloc_last h1.al, hl1]) ⟨.skip, _, .inr ⟨_, _, _, rfl⟩⟩ ?_
    have h2 : QAt (σ ++ [b1] ++ [(0, some (.cells [] ⟨false, none⟩))]) q rid rv es quan ring := h1.app _ _
    have hg2 : (σ ++ [b1] ++ [((0, some (.cells [] ⟨false, none⟩)) : Nat × Option Box)])[σ.length + 1]? = some (0, some (.cells [] ⟨false, none⟩)) := by rw [← hl1]; exact app_last
    have hk2 : QKeep σ (σ ++ [b1] ++ [(0, some (.cells [] ⟨false, none⟩))]) (Own q rid es) (Own q rid es) := QKeep.app.trans QKeep.app
    generalize (σ ++ [b1] ++ [((0, some (.cells [] ⟨false, none⟩)) : Nat × Option Box)]) = σ2 at *
    cases hf : ring.findIdx? (fun t => t.num == num) with
    | none =>
      have hw : wtQ ring num = [] := by unfold wtQ; rw [hf]
      have ha : atQ ring num = -1 := by unfold atQ; rw [hf]
      have c1 : decide (atQ ring num ≥ 0) = false := by rw [ha]; rfl
      refine pao [.b false] rfl ?_ ?_
      · (repeat' with_reducible apply AllP_cons) <;> try exact aC
      rw [hw]
      exact S_ret ⟨_, _, rfl, trivial, σ.length + 1, 0, rfl, by omega, hg2, h2, hk2⟩
    | some i =>
      obtain ⟨hi, hie, _⟩ := List.findIdx?_eq_some_iff_getElem.1 hf
      have hw : wtQ ring num = ring[i].jobs.map QJ.name := by unfold wtQ; rw [hf]; simp only [List.getElem?_eq_getElem hi]
      have ha : atQ ring num = (i : Int) := by unfold atQ; rw [hf]
      have c1 : decide (atQ ring num ≥ 0) = true := by rw [ha]; exact decide_eq_true (by omega)
      have hlen := h2.tn.len
      have hie2 : i < es.length := by omega
      obtain ⟨k1, k2⟩ := h2.tn.get i hie2 hi
      have hml := many_at hi
      have hrx : ((rgC es).drop (offN 0 (mulN ((atQ ring num)).toNat 1)))[0]? = some (.ptr es[i].tid 0 0) := by
        rw [ha, offN_eq, mulN_eq, Int.toNat_natCast, Nat.zero_add, Nat.mul_one, List.getElem?_drop, Nat.add_zero]
        simp [rgC, hie2]
      have hge : 0 ≤ atQ ring num := by rw [ha]; omega
      have hlt : atQ ring num < (ring.length : Int) := by rw [ha]; omega
      refine pao [.b true, .v (.ms rid rv 0 ring.length 1 false), .v .top, .v (.ptr es[i].tid 0 0), .v (.ms es[i].jid es[i].jv 0 ring[i].jobs.length 3 false)] rfl ?_ ?_
      · (repeat' with_reducible apply AllP_cons) <;> try exact aC
        · exact OpSpec.loadP rfl rfl rfl rfl h2.qb rfl
        · exact OpSpec.loadE rfl rfl rfl rfl h2.rb hrx
        · exact OpSpec.loadP rfl rfl rfl rfl k1 rfl
      refine S_while (α := Heap × Nat) (fun u => [(5, .ms (σ.length + 1) u.2 0 u.2 1 false), (23, .ms es[i].jid es[i].jv 0 ring[i].jobs.length 3 false), (24, .int .i64 (ring[i].jobs.length : Nat)), (25, .int .i64 (u.2 : Nat))]) (fun u => u.1)
        (fun u => QAt u.1 q rid rv es quan ring ∧ QKeep σ u.1 (Own q rid es) (Own q rid es) ∧ u.1[σ.length + 1]? = some (u.2, some (.cells (texts ((ring[i].jobs.map QJ.name).take u.2)) ⟨false, none⟩)) ∧ u.2 ≤ ring[i].jobs.length) (fun u => ring[i].jobs.length - u.2) (σ2, 0)
        ⟨h2, hk2, hg2, Nat.zero_le _⟩ (.cons rfl (.cons rfl (.cons rfl (.cons rfl (.nil _))))) rfl ?_
      rintro ⟨u, k⟩ ⟨h3, hk3, hg3, hk⟩
      simp only at h3 hk3 hg3 hk
      have hno : ¬ Own q rid es (σ.length + 1) := fun ho => by
        have := h.lt _ ho; omega
      by_cases hlt2 : k < ring[i].jobs.length
      · have c2 : decide ((k : Int) < ((ring[i].jobs.length : Nat) : Int)) = true := decide_eq_true (by omega)
        obtain ⟨k3, k4⟩ := h3.tn.get i hie2 hi
        obtain ⟨j, hj⟩ : ∃ j, j = ring[i].jobs[k] := ⟨_, rfl⟩
        obtain ⟨e1, e2⟩ := jbC_at hlt2
        obtain ⟨zz, hzz⟩ : ∃ zz : Nat × Option Box, zz = (0, some (.cells [.int .i64 0, .str [], .int .i64 0] ⟨false, some 34⟩)) := ⟨_, rfl⟩
        obtain ⟨zj, hzj⟩ : ∃ zj : Nat × Option Box, zj = (0, some (.cells j.cells ⟨false, some 34⟩)) := ⟨_, rfl⟩
        have hnx : (ring[i].jobs.map QJ.name).take (k + 1) = (ring[i].jobs.map QJ.name).take k ++ [j.name] := by
          rw [List.take_succ_eq_append_getElem (by simpa using hlt2), hj]; simp
        obtain ⟨G, hG⟩ : ∃ G : Nat × Option Box, G = (k + 1, some (.cells (texts ((ring[i].jobs.map QJ.name).take (k + 1))) ⟨false, none⟩)) := ⟨_, rfl⟩
        have h4 : QAt (u ++ [zj]) q rid rv es quan ring := by rw [hzj]; exact h3.app _ _
        have hg4 : (u ++ [zj])[σ.length + 1]? = _ := app_get hg3
        refine pao [.b true, .v .top, .v (jobA j), .f (.ptr u.length 0 0) (fun t => t ++ [zz]), .f (.tup []) (fun _ => u ++ [zj]), .v (.str j.name), .f (.ms (σ.length + 1) (k + 1) 0 (k + 1) 1 false) (fun t => t.set (σ.length + 1) G)] rfl ?_ ?_
        · (repeat' with_reducible apply AllP_cons) <;> try exact aC
          · refine OpSpec.loadEA (cs := jbC ring[i].jobs) rfl rfl rfl rfl k4 e2 ?_
            rw [hj]; exact congrArg AV.agg e1.symm
          · rw [hzz]; exact OpSpec.allocE rfl rfl rfl rfl h3.al
          · exact OpSpec.storeP (id := u.length) (gT := some 34) (cs := [.int .i64 0, .str [], .int .i64 0]) (y := jobA j) rfl rfl rfl rfl rfl rfl (by rw [app_last, hzz]) (lble rfl) (by rw [List.set_append_right _ _ (Nat.le_refl _), Nat.sub_self, hzj]; rfl)
          · exact OpSpec.loadP rfl rfl rfl rfl (by rw [app_last, hzj]) rfl
          · refine OpSpec.appendX (id := σ.length + 1) (ver := k) (off := 0) (len := k) (y := .str j.name) (cs := texts ((ring[i].jobs.map QJ.name).take k)) rfl rfl rfl rfl rfl (fun z hz => by rw [List.mem_singleton.1 (show z ∈ [AV.str j.name] from hz)]; rfl) hg4 ?_ ?_ ?_ ?_
            · rw [texts_len, List.length_take, List.length_map]; omega
            · show (k + 1) * 16 ≤ _; omega
            · omega
            · rw [hG, hnx, ← texts_snoc]; rfl
        refine S_round ((u ++ [zj]).set (σ.length + 1) G, k + 1) (by show ring[i].jobs.length - (k + 1) < ring[i].jobs.length - k; omega) ⟨?_, ?_, ?_, hlt2⟩ (.cons rfl (.cons rfl (.cons rfl (.cons ?_ (.nil _))))) rfl
        · exact h4.keep (Alive.set' h4.al (by rw [hG]; exact ⟨_, rfl⟩) _) fun id ho => set_ne fun e => hno (e ▸ ho)
        · exact (hk3.trans QKeep.app).set (by omega) _
        · show ((u ++ [zj]).set (σ.length + 1) G)[σ.length + 1]? = _
          rw [set_eq hg4, hG]
        · show AV.int .i64 (IntKind.i64.wrap ((k : Int) + 1)) = .int .i64 ((k + 1 : Nat) : Int); exact ai64 rfl (by omega)
      · have c2 : decide ((k : Int) < ((ring[i].jobs.length : Nat) : Int)) = false := decide_eq_false (by omega)
        have hkk : k = ring[i].jobs.length := by omega
        refine pao [.b false] rfl ?_ ?_
        · (repeat' with_reducible apply AllP_cons) <;> try exact aC
        rw [List.take_of_length_le (by rw [List.length_map]; omega)] at hg3
        rw [hw]
        refine S_ret ⟨_, _, rfl, trivial, σ.length + 1, k, ?_, by omega, hg3, h3, hk3⟩
        rw [List.length_map, ← hkk]; rfl
theorem rWaiting_ok (σ : Heap) (L : RL) (quan : Int) (s : RS) (num : Int) (h : RAt σ L quan s) (hl : s.jobs.length ≤ 1000) :
    CallOk cx 21 [.ptr L.r 0 0, .int .i64 num] σ (fun o t => ∃ w wv, o = .ret (.ms w wv 0 ((s.jobs.filter (fun j => j.ten == num)).map QJ.name).length 1 false) ∧ σ.length ≤ w ∧ t[w]? = some (wv, some (.cells (texts ((s.jobs.filter (fun j => j.ten == num)).map QJ.name)) ⟨false, none⟩)) ∧ RAt t L quan s ∧ QKeep σ t (OwnR L) (OwnR L)) :=
  callOk_intro (fun a w => Try.call21 a w) Try.func21 rfl Try.ntmps21 rfl fun B => by
    refine pao [] rfl ?_ ?_
    · (repeat' with_reducible apply AllP_cons) <;> try exact aC
    refine S_ghostF (t := 5) (gid := σ.length) (gver := 0) (σ' := σ ++ [(0, some (.cells [] ⟨false, none⟩))]) 1 ⟨false, none⟩ rfl (alloc_last h.al _) ⟨_, _, .inl rfl⟩ ?_
    have hno : ¬ OwnR L σ.length := fun ho => by have := h.lt _ ho; omega
    refine S_while (α := Heap × Nat × List Nm) (fun u => [(0, .ptr L.r 0 0), (1, .int .i64 num), (5, .ms σ.length u.2.2.length 0 u.2.2.length 1 false), (6, .int .i64 (u.2.1 : Nat))]) (fun u => u.1)
      (fun u => RAt u.1 L quan s ∧ QKeep σ u.1 (OwnR L) (OwnR L) ∧ u.1[σ.length]? = some (u.2.2.length, some (.cells (texts u.2.2) ⟨false, none⟩)) ∧ u.2.1 ≤ s.jobs.length ∧ u.2.2 = ((s.jobs.take u.2.1).filter (fun j => j.ten == num)).map QJ.name) (fun u => s.jobs.length - u.2.1) (σ ++ [(0, some (.cells [] ⟨false, none⟩))], 0, [])
      ⟨h.app _ _, QKeep.app, app_last, Nat.zero_le _, rfl⟩ (.cons rfl (.cons rfl (.cons rfl (.cons rfl (.nil _))))) rfl ?_
    rintro ⟨u, i, ns⟩ ⟨h3, hk3, hg3, hi, hns⟩
    simp only at h3 hk3 hg3 hi hns
    by_cases hlt : i < s.jobs.length
    · have c1 : decide ((i : Int) < (s.jobs.length : Int)) = true := decide_eq_true (by omega)
      have hld0 := jbC_f hlt 0 (by decide)
      have hld1 := jbC_f hlt 1 (by decide)
      have htk : s.jobs.take (i + 1) = s.jobs.take i ++ [s.jobs[i]] := List.take_succ_eq_append_getElem hlt
      cases hb : s.jobs[i].ten == num with
      | true =>
        obtain ⟨G, hG⟩ : ∃ G : Nat × Option Box, G = (ns.length + 1, some (.cells (texts (ns ++ [s.jobs[i].name])) ⟨false, none⟩)) := ⟨_, rfl⟩
        have hnl : ns.length ≤ 1000 := by
          rw [hns, List.length_map]
          have := List.length_filter_le (fun j : QJ => j.ten == num) (s.jobs.take i)
          rw [List.length_take] at this; omega
        refine pao [.v (.ms L.jid L.jv 0 s.jobs.length 3 false), .b true, .v (.ms L.jid L.jv 0 s.jobs.length 3 false), .v .top, .v (.int .i64 s.jobs[i].ten), .b true, .v (.ms L.jid L.jv 0 s.jobs.length 3 false), .v .top, .v (.str s.jobs[i].name), .f (.ms σ.length (ns.length + 1) 0 (ns.length + 1) 1 false) (fun t => t.set σ.length G)] rfl ?_ ?_
        · (repeat' with_reducible apply AllP_cons) <;> try exact aC
          · exact OpSpec.loadP rfl rfl rfl rfl h3.rb rfl
          · exact OpSpec.loadP rfl rfl rfl rfl h3.rb rfl
          · exact OpSpec.loadE rfl rfl rfl rfl h3.jb hld0
          · exact OpSpec.loadP rfl rfl rfl rfl h3.rb rfl
          · exact OpSpec.loadE rfl rfl rfl rfl h3.jb hld1
          · refine OpSpec.appendX (id := σ.length) (ver := ns.length) (off := 0) (len := ns.length) (y := .str s.jobs[i].name) (cs := texts ns) rfl rfl rfl rfl rfl (fun z hz => by rw [List.mem_singleton.1 (show z ∈ [AV.str s.jobs[i].name] from hz)]; rfl) hg3 ?_ ?_ ?_ ?_
            · rw [texts_len]; omega
            · show (ns.length + 1) * 16 ≤ _; omega
            · omega
            · rw [hG, ← texts_snoc]; rfl
        have hl1 : (ns ++ [s.jobs[i].name]).length = ns.length + 1 := by simp
        refine S_round (u.set σ.length G, i + 1, ns ++ [s.jobs[i].name]) (by show s.jobs.length - (i + 1) < s.jobs.length - i; omega) ⟨?_, ?_, ?_, hlt, ?_⟩ (.cons rfl (.cons rfl (.cons ?_ (.cons ?_ (.nil _))))) rfl
        · exact h3.mono (Alive.set' h3.al (by rw [hG]; exact ⟨_, rfl⟩) _) fun id ho => set_ne fun e => hno (e ▸ ho)
        · exact hk3.set (Nat.le_refl _) _
        · show (u.set σ.length G)[σ.length]? = _
          rw [set_eq hg3, hG, hl1]
        · show ns ++ [s.jobs[i].name] = _
          rw [htk, List.filter_append, List.map_append, ← hns, List.filter_cons_of_pos (p := fun j : QJ => j.ten == num) hb]; rfl
        · rw [hl1]; rfl
        · show AV.int .i64 (IntKind.i64.wrap ((i : Int) + 1)) = .int .i64 ((i + 1 : Nat) : Int); exact ai64 rfl (by omega)
      | false =>
        refine pao [.v (.ms L.jid L.jv 0 s.jobs.length 3 false), .b true, .v (.ms L.jid L.jv 0 s.jobs.length 3 false), .v .top, .v (.int .i64 s.jobs[i].ten), .b false] rfl ?_ ?_
        · (repeat' with_reducible apply AllP_cons) <;> try exact aC
          · exact OpSpec.loadP rfl rfl rfl rfl h3.rb rfl
          · exact OpSpec.loadP rfl rfl rfl rfl h3.rb rfl
          · exact OpSpec.loadE rfl rfl rfl rfl h3.jb hld0
        refine S_round (u, i + 1, ns) (by show s.jobs.length - (i + 1) < s.jobs.length - i; omega) ⟨h3, hk3, hg3, hlt, ?_⟩ (.cons rfl (.cons rfl (.cons rfl (.cons ?_ (.nil _))))) rfl
        · show ns = _
          rw [htk, List.filter_append, List.map_append, ← hns, List.filter_cons_of_neg (p := fun j : QJ => j.ten == num) (by rw [hb]; simp)]; simp
        · show AV.int .i64 (IntKind.i64.wrap ((i : Int) + 1)) = .int .i64 ((i + 1 : Nat) : Int); exact ai64 rfl (by omega)
    · have c1 : decide ((i : Int) < (s.jobs.length : Int)) = false := decide_eq_false (by omega)
      refine pao [.v (.ms L.jid L.jv 0 s.jobs.length 3 false), .b false] rfl ?_ ?_
      · (repeat' with_reducible apply AllP_cons) <;> try exact aC
        · exact OpSpec.loadP rfl rfl rfl rfl h3.rb rfl
      rw [List.take_of_length_le (by omega)] at hns
      rw [← hns]
      exact S_ret ⟨_, _, rfl, trivial, σ.length, _, rfl, Nat.le_refl _, hg3, h3, hk3⟩
end Go.Proofs.Ytjaflkgfipaajaa
end
section
set_option linter.unusedVariables false
set_option linter.unusedSimpArgs false
namespace Go.Ab
open Go Go.WideShapes
def laidB (P : Program) : List Field → Nat → Option Nat
  | [], o => some o
  | f :: r, o => match Nat.beq f.offset o with
    | true => laidB P r (o + P.cellsOf f.type)
    | false => none
mutual
def plainB (P : Program) : Nat → TypeId → Bool
  | 0, _ => false
  | n + 1, t => match P.underlying t with
    | some .bool => Nat.beq (P.cellsOf t) 1
    | some (.int _) => Nat.beq (P.cellsOf t) 1
    | some .string => Nat.beq (P.cellsOf t) 1
    | some (.slice e) => match Nat.beq (P.cellsOf t) 1, Nat.beq (P.cellsOf e) 0 with
      | true, false => plainB P n e
      | _, _ => false
    | some (.struct fs) => match laidB P fs.toList 0 with
      | some m => match Nat.beq (P.cellsOf t) m with
        | true => plainAll P n fs.toList
        | false => false
      | none => false
    | _ => false
def plainAll (P : Program) : Nat → List Field → Bool
  | 0, _ => false
  | n + 1, fs => match fs with
    | [] => true
    | f :: r => match plainB P n f.type with
      | true => plainAll P n r
      | false => false
end
inductive RdD (P : Program) {H : Type} : TypeId → DataW H → AV → Prop
  | bool {t b} (ht : P.underlying t = some .bool) : RdD P t (.lit (.bool b)) (.bool b)
  | int {t k n} (ht : P.underlying t = some (.int k)) (hw : (Lit.int k n).wf = true) : RdD P t (.lit (.int k n)) (.int k n)
  | str {t s} (ht : P.underlying t = some .string) (hs : s.length ≤ maxLen) : RdD P t (.lit (.string s)) (.str s)
  | nils {t e} (ht : P.underlying t = some (.slice e)) : RdD P t .nil (.sl true false (P.cellsOf e) [])
  | sl {t e} {ds rest : List (DataW H)} {xs : List AV} (ht : P.underlying t = some (.slice e)) (hl : xs.length = ds.length) (hm : xs.length ≤ maxLen) (h : ∀ i (h1 : i < ds.length) (h2 : i < xs.length), RdD P e ds[i] xs[i]) : RdD P t (.slice ds rest) (.sl true false (P.cellsOf e) xs)
  | st {t} {fs : Array Field} {ds : List (DataW H)} {xs : List AV} (ht : P.underlying t = some (.struct fs)) (hd : ds.length = fs.size) (hx : xs.length = fs.size) (h : ∀ i (h1 : i < ds.length) (h2 : i < xs.length) (h3 : i < fs.size), RdD P fs[i].type ds[i] xs[i]) : RdD P t (.agg ds) (.agg (xs.flatMap AV.cells))
def CellsV (w : World) (cs : List Value) (az : List AV) : Prop := cs.length = az.length ∧ ∀ i (h1 : i < cs.length) (h2 : i < az.length), VRel (Rl.old w) w cs[i] az[i]
theorem CellsV.one {w : World} {v : Value} {a : AV} (h : VRel (Rl.old w) w v a) : CellsV w [v] [a] := by
  refine ⟨rfl, fun i h1 h2 => ?_⟩
  obtain rfl : i = 0 := by simpa using h1
  exact h
theorem laidB_flat {P : Program} : ∀ (fs : List Field) (o m : Nat) (w : World) (cs : List Value) (xs : List AV), laidB P fs o = some m → xs.length = fs.length → (∀ i (h1 : i < fs.length) (h2 : i < xs.length), CellsV w ((cs.drop fs[i].offset).take (P.cellsOf fs[i].type)) xs[i].cells ∧ xs[i].cells.length = P.cellsOf fs[i].type) →
    cs.length = m → o ≤ m ∧ CellsV w (cs.drop o) (xs.flatMap AV.cells)
  | [], o, m, w, cs, xs, h, hl, hc, hm => by
    simp only [laidB, Option.some.injEq] at h
    obtain rfl : xs = [] := List.eq_nil_of_length_eq_zero hl
    subst h
    refine ⟨Nat.le_refl _, ?_⟩
    rw [List.drop_of_length_le (by omega)]
    exact ⟨rfl, fun i h => absurd h (by simp)⟩
  | f :: r, o, m, w, cs, xs, h, hl, hc, hm => by
    rw [laidB] at h
    split at h
    case h_2 => cases h
    rename_i hb
    have ho := Nat.eq_of_beq_eq_true hb
    obtain ⟨x, xs, rfl⟩ : ∃ x xs', xs = x :: xs' := by
      cases xs with
      | nil => simp at hl
      | cons x xs => exact ⟨x, xs, rfl⟩
    have h0 := hc 0 (by simp) (by simp)
    simp only [List.getElem_cons_zero] at h0
    obtain ⟨h1, h2⟩ := laidB_flat r (o + P.cellsOf f.type) m w cs xs h (by simpa using hl) (fun i k1 k2 => hc (i + 1) (Nat.succ_lt_succ k1) (Nat.succ_lt_succ k2)) hm
    refine ⟨by omega, ?_⟩
    obtain ⟨⟨e1, e2⟩, e3⟩ := h0
    rw [ho] at e1 e2
    rw [List.flatMap_cons]
    have hsplit : cs.drop o = (cs.drop o).take (P.cellsOf f.type) ++ cs.drop (o + P.cellsOf f.type) := by
      rw [← List.drop_drop, List.take_append_drop]
    rw [hsplit]
    refine ⟨by rw [List.length_append, List.length_append, e1, h2.1], fun i k1 k2 => ?_⟩
    by_cases hi : i < x.cells.length
    · rw [List.getElem_append_left (by omega), List.getElem_append_left hi]
      exact e2 i (by omega) hi
    · rw [List.getElem_append_right (by omega), List.getElem_append_right (by omega)]
      have : i - ((cs.drop o).take (P.cellsOf f.type)).length = i - x.cells.length := by omega
      simp only [this]
      exact h2.2 _ _ _
theorem read_cells {H : Type} {enc : TypeId × Value → H} {P : Program} {W : World} : ∀ (fuel n : Nat) (t : TypeId) (cs : List Value) (d : DataW H) (ps : List MemPlace), DataW.trod enc P W 0 (fun _ => true) true fuel t cs = some (d, ps) → plainB P n t = true →
    ∃ a, RdD P t d a ∧ a.cells.length = P.cellsOf t ∧ CellsV W cs a.cells ∧ (∀ v, (∃ xs, v = .agg xs ∧ xs.toList = cs ∧ aggT P t = some true) ∨ ([v] = cs ∧ aggT P t = some false) → VRel (Rl.old W) W v a) := by
  intro fuel
  induction fuel with
  | zero => intro n t cs d ps h _; simp [DataW.trod] at h
  | succ fuel ih =>
    intro n t cs d ps h hp
    have hall : ∀ (n : Nat) (fs : List Field), plainAll P n fs = true → ∀ i (hi : i < fs.length), ∃ m, plainB P m fs[i].type = true := by
      intro n
      induction n with
      | zero => intro fs h; simp [plainAll] at h
      | succ n ihn =>
        intro fs h i hi
        cases fs with
        | nil => simp at hi
        | cons f r =>
          rw [plainAll] at h
          split at h
          · rename_i hb
            cases i with
            | zero => exact ⟨n, hb⟩
            | succ i => exact ihn r h i (by simpa using hi)
          · cases h
    cases n with
    | zero => simp [plainB] at hp
    | succ n =>
      rw [plainB] at hp
      split at hp
      ·
        rename_i ht
        obtain ⟨b, rfl, hx⟩ := DataW.trod_bool ht h
        cases hx
        refine ⟨.bool b, .bool ht, (Nat.eq_of_beq_eq_true hp).symm, .one .bool, ?_⟩
        rintro v (⟨xs, rfl, h1, h2⟩ | ⟨h1, h2⟩)
        · simp [aggT, ht] at h2
        · cases h1; exact .bool
      · rename_i k ht
        obtain ⟨m, rfl, hx, hw⟩ := DataW.trod_int ht h
        cases hx
        refine ⟨.int _ m, .int ht hw, (Nat.eq_of_beq_eq_true hp).symm, .one .int, ?_⟩
        rintro v (⟨xs, rfl, h1, h2⟩ | ⟨h1, h2⟩)
        · simp [aggT, ht] at h2
        · cases h1; exact .int
      · rename_i ht
        obtain ⟨s, rfl, hx, hw⟩ := DataW.trod_string ht h
        cases hx
        refine ⟨.str s.data.toList, .str ht (by rw [Array.length_toList]; exact hw), (Nat.eq_of_beq_eq_true hp).symm, .one (.str rfl), ?_⟩
        rintro v (⟨xs, rfl, h1, h2⟩ | ⟨h1, h2⟩)
        · simp [aggT, ht] at h2
        · cases h1; exact .str rfl
      ·
        rename_i e ht
        split at hp
        case h_2 => cases hp
        rename_i hc1 hc0
        have hc1 := Nat.eq_of_beq_eq_true hc1
        have hpos : 0 < P.cellsOf e := by
          rcases Nat.eq_zero_or_pos (P.cellsOf e) with h0 | h0
          · rw [h0] at hc0; cases hc0
          · exact h0
        rcases DataW.trod_slice ht h with ⟨rfl, hx⟩ | ⟨a, len, cap, elems, rest, fu, hfu, rfl, hx, _, hl, hm, hlen, hel, hsp, hns⟩
        · cases hx
          refine ⟨_, .nils ht, hc1.symm, .one (.sl0 (fun h => by cases h)), ?_⟩
          rintro v (⟨xs, rfl, h1, h2⟩ | ⟨h1, h2⟩)
          · simp [aggT, ht] at h2
          · cases h1; exact .sl0 (fun h => by cases h)
        · cases hx
          obtain rfl : fuel = fu := by omega
          have each : ∀ i (hi : i < elems.length), ∃ x, RdD P e (elems[i]).1 x ∧ x.cells.length = P.cellsOf e ∧ ∃ ecs : List Value, W.cells? 0 (a.add (i * P.cellsOf e)) (P.cellsOf e) = some ecs ∧ CellsV W ecs x.cells := by
            intro i hi
            have h1 := hel i (by omega)
            rw [List.getElem?_eq_getElem hi, Option.bind_eq_some_iff] at h1
            obtain ⟨ecs, h2, h3⟩ := h1
            obtain ⟨x, k1, k2, k3, _⟩ := ih n e ecs (elems[i]).1 (elems[i]).2 h3 hp
            exact ⟨x, k1, k2, ecs, h2, k3⟩
          have : ∃ xs : List AV, xs.length = elems.length ∧ ∀ i (hi : i < elems.length) (hx : i < xs.length), RdD P e (elems[i]).1 xs[i] ∧ xs[i].cells.length = P.cellsOf e ∧ ∃ ecs : List Value, W.cells? 0 (a.add (i * P.cellsOf e)) (P.cellsOf e) = some ecs ∧ CellsV W ecs xs[i].cells := by
            refine ⟨(List.finRange elems.length).map fun i => Classical.choose (each i.1 i.2), by simp, fun i hi hx => ?_⟩
            simp only [List.getElem_map, List.getElem_finRange]
            exact Classical.choose_spec (each i hi)
          obtain ⟨xs, hxl, hxs⟩ := this
          have hv : VRel (Rl.old W) W (.slice (some a) len cap) (.sl true false (P.cellsOf e) xs) := by
            rcases Nat.eq_zero_or_pos len with h0 | h0
            · subst h0
              obtain rfl : xs = [] := List.eq_nil_of_length_eq_zero (by omega)
              exact .sl0 (fun h => by cases h)
            · obtain ⟨b, o, sp⟩ := a
              obtain ⟨_, _, ecs0, hc, _⟩ := hxs 0 (by omega) (by omega)
              obtain ⟨_, hcl, hcc⟩ := World.cells?_some hc
              have hcell0 := hcc 0 hpos
              rw [List.getElem?_eq_getElem (by omega)] at hcell0
              have hsp : sp = none := by
                cases sp with
                | none => rfl
                | some s =>
                  simp [Addr.add, World.cell?] at hcell0
                  split at hcell0 <;> cases hcell0
              subst hsp
              have hb : b < W.heap.size := by
                rw [Addr.add_lit] at hcell0
                rcases Nat.lt_or_ge b W.heap.size with h | h
                · exact h
                · simp [World.cell?, Addr.add, Array.getElem?_eq_none h] at hcell0
              have hcel : ∀ i, i < xs.length → ∀ j, j < P.cellsOf e → ∃ v, W.cell? ⟨b, o + i * P.cellsOf e + j, none⟩ = some v ∧ ∀ (hi : i < xs.length) (hj : j < (AV.cells xs[i]).length), VRel (Rl.old W) W v (AV.cells xs[i])[j] := by
                intro i hi j hj
                obtain ⟨_, hxc, ecs, hc, hcv⟩ := hxs i (by omega) hi
                obtain ⟨_, hcl, hcc⟩ := World.cells?_some hc
                have h1 := hcc j hj
                rw [List.getElem?_eq_getElem (by omega)] at h1
                rw [Addr.add_lit, Addr.add_lit] at h1
                refine ⟨ecs[j], h1, fun _ hj' => hcv.2 j _ hj'⟩
              refine .sl (by omega) hl (fun h => by cases h) hb (fun _ => hb) (fun x hx => ?_) (fun i j => (W.cell? ⟨b, o + i * P.cellsOf e + j, none⟩).getD undef) (fun i hi j hj => ?_) (fun i hi j hj => ?_)
              · obtain ⟨i, hi, rfl⟩ := List.getElem_of_mem hx
                exact (hxs i (by omega) hi).2.1
              · obtain ⟨v, h1, _⟩ := hcel i hi j hj
                rw [h1]; rfl
              · obtain ⟨v, h1, h2⟩ := hcel i hi j (by rw [(hxs i (by omega) hi).2.1] at hj; exact hj)
                rw [h1]
                exact h2 hi hj
          refine ⟨.sl true false (P.cellsOf e) xs, .sl ht (by simp [hxl]) (by omega) (fun i h1 h2 => by simpa using (hxs i (by simpa using h1) h2).1), hc1.symm, .one hv, ?_⟩
          rintro v (⟨ys, rfl, h1, h2⟩ | ⟨h1, h2⟩)
          · simp [aggT, ht] at h2
          · cases h1; exact hv
      ·
        rename_i fs ht
        split at hp
        case h_2 => cases hp
        rename_i m hm
        split at hp
        case h_2 => cases hp
        rename_i hcm
        have hcm := Nat.eq_of_beq_eq_true hcm
        obtain ⟨ys, fu, hfu, hx, hl, hyl, hy⟩ := DataW.trod_struct ht h
        obtain rfl : fuel = fu := by omega
        cases hx
        have each : ∀ i (hi : i < fs.toList.length) (hi' : i < ys.length), ∃ x, RdD P (fs.toList[i]).type (ys[i]).1 x ∧ x.cells.length = P.cellsOf (fs.toList[i]).type ∧ CellsV W ((cs.drop (fs.toList[i]).offset).take (P.cellsOf (fs.toList[i]).type)) x.cells := by
          intro i hi hi'
          have h1 := hy i (fs.toList[i]) (by simp at hi; simp [hi])
          rw [List.getElem?_eq_getElem hi'] at h1
          obtain ⟨k, hk⟩ := hall n fs.toList hp i hi
          obtain ⟨x, k1, k2, k3, _⟩ := ih k _ _ (ys[i]).1 (ys[i]).2 h1 hk
          exact ⟨x, k1, k2, k3⟩
        have hfl : fs.toList.length = ys.length := by simp [hyl]
        have : ∃ xs : List AV, xs.length = fs.toList.length ∧ ∀ i (hi : i < fs.toList.length) (hi' : i < ys.length) (hx : i < xs.length), RdD P (fs.toList[i]).type (ys[i]).1 xs[i] ∧ xs[i].cells.length = P.cellsOf (fs.toList[i]).type ∧ CellsV W ((cs.drop (fs.toList[i]).offset).take (P.cellsOf (fs.toList[i]).type)) xs[i].cells := by
          refine ⟨(List.finRange fs.toList.length).map fun i => Classical.choose (each i.1 i.2 (by omega)), by simp, fun i hi hi' hx => ?_⟩
          simp only [List.getElem_map, List.getElem_finRange]
          exact Classical.choose_spec (each i hi hi')
        obtain ⟨xs, hxl, hxs⟩ := this
        obtain ⟨_, hcv⟩ := laidB_flat fs.toList 0 m W cs xs hm hxl (fun i h1 h2 => ⟨(hxs i h1 (by omega) h2).2.2, (hxs i h1 (by omega) h2).2.1⟩) (by omega)
        rw [List.drop_zero] at hcv
        refine ⟨.agg (xs.flatMap AV.cells), .st ht (by simp [hyl]) (by simpa using hxl) (fun i h1 h2 h3 => by
          have := (hxs i (by simpa using h3) (by simpa using h1) h2).1
          simp only [Array.getElem_toList, List.getElem_map] at this ⊢
          exact this), by show (xs.flatMap AV.cells).length = _; rw [← hcv.1]; omega, hcv, ?_⟩
        rintro v (⟨zs, rfl, h1, h2⟩ | ⟨h1, h2⟩)
        · refine .agg (by rw [← hcv.1, ← h1]; simp) (fun i hi => ?_)
          have h3 : i < cs.length := by rw [hcv.1]; exact hi
          have := hcv.2 i h3 hi
          subst h1
          rw [Array.getD_eq_getD_getElem?, Array.getElem?_eq_getElem (by simpa using h3)]
          simpa using this
        · simp [aggT, ht] at h2
      · cases hp
theorem read_plain {H : Type} {enc : TypeId × Value → H} {P : Program} {W : World} {r : Reach} {base : Nat} {n : Nat} {t : TypeId} {v : Value} {d : DataW H} {ps : List MemPlace} (hp : plainB P n t = true) (hv : Value.okWide P W r base t v)
    (h : DataW.Trod enc P W 0 (fun _ => true) true t v d ps) : ∃ a, VRel (Rl.old W) W v a ∧ RdD P t d a := by
  obtain ⟨fuel, hf⟩ := h
  obtain ⟨a, h1, _, _, h2⟩ := read_cells fuel n t _ d ps hf hp
  refine ⟨a, h2 v ?_, h1⟩
  cases n with
  | zero => simp [plainB] at hp
  | succ n =>
    rw [plainB] at hp
    split at hp
    · rename_i ht
      obtain ⟨b, rfl⟩ := okWide_bool ht hv
      exact .inr ⟨rfl, by simp [aggT, ht]⟩
    · rename_i k ht
      obtain ⟨b, rfl⟩ := okWide_int ht hv
      exact .inr ⟨rfl, by simp [aggT, ht]⟩
    · rename_i ht
      obtain ⟨b, rfl⟩ := okWide_string ht hv
      exact .inr ⟨rfl, by simp [aggT, ht]⟩
    · rename_i e ht
      obtain ⟨a, len, cap, rfl⟩ := okWide_slice ht hv
      exact .inr ⟨rfl, by simp [aggT, ht]⟩
    · rename_i fs ht
      obtain ⟨cs, rfl, _⟩ := okWide_struct ht hv
      exact .inl ⟨cs, rfl, rfl, by simp [aggT, ht]⟩
    · cases hp
def RdDAll (P : Program) {H : Type} : List Field → List (DataW H) → List AV → Prop
  | [], [], [] => True
  | f :: fs, d :: ds, x :: xs => RdD P f.type d x ∧ RdDAll P fs ds xs
  | _, _, _ => False
theorem RdDAll.of {P : Program} {H : Type} : ∀ {fs : List Field} {ds : List (DataW H)} {xs : List AV}, ds.length = fs.length → xs.length = fs.length → (∀ i (h1 : i < ds.length) (h2 : i < xs.length) (h3 : i < fs.length), RdD P fs[i].type ds[i] xs[i]) → RdDAll P fs ds xs
  | [], ds, xs, h1, h2, _ => by
    obtain rfl : ds = [] := List.eq_nil_of_length_eq_zero h1
    obtain rfl : xs = [] := List.eq_nil_of_length_eq_zero h2
    trivial
  | f :: fs, ds, xs, h1, h2, h => by
    cases ds with
    | nil => simp at h1
    | cons d ds =>
      cases xs with
      | nil => simp at h2
      | cons x xs =>
        exact ⟨h 0 (by simp) (by simp) (by simp), RdDAll.of (by simpa using h1) (by simpa using h2) (fun i k1 k2 k3 => h (i + 1) (Nat.succ_lt_succ k1) (Nat.succ_lt_succ k2) (Nat.succ_lt_succ k3))⟩
theorem RdDAll.cons {P : Program} {H : Type} {f : Field} {fs : List Field} {ds : List (DataW H)} {xs : List AV} (h : RdDAll P (f :: fs) ds xs) : ∃ d ds' x xs', ds = d :: ds' ∧ xs = x :: xs' ∧ RdD P f.type d x ∧ RdDAll P fs ds' xs' := by
  match ds, xs, h with
  | d :: ds', x :: xs', ⟨h1, h2⟩ => exact ⟨d, ds', x, xs', rfl, rfl, h1, h2⟩
theorem RdDAll.nil {P : Program} {H : Type} {ds : List (DataW H)} {xs : List AV} (h : RdDAll P [] ds xs) : ds = [] ∧ xs = [] := by
  match ds, xs, h with
  | [], [], _ => exact ⟨rfl, rfl⟩
section
variable {P : Program} {H : Type} {t : TypeId} {d : DataW H} {a : AV}
theorem RdD.inv_st {fs : Array Field} (h : RdD P t d a) (ht : P.underlying t = some (.struct fs)) : ∃ ds xs, d = .agg ds ∧ a = .agg (xs.flatMap AV.cells) ∧ RdDAll P fs.toList ds xs := by
  cases h with
  | st ht' hd hx h =>
    rw [ht] at ht'
    cases ht'
    exact ⟨_, _, rfl, rfl, .of (by simpa using hd) (by simpa using hx) (fun i h1 h2 h3 => by simpa using h i h1 h2 (by simpa using h3))⟩
  | bool ht' => rw [ht] at ht'; cases ht'
  | str ht' => rw [ht] at ht'; cases ht'
  | int ht' => rw [ht] at ht'; cases ht'
  | nils ht' => rw [ht] at ht'; cases ht'
  | sl ht' => rw [ht] at ht'; cases ht'
theorem RdD.inv_str (h : RdD P t d a) (ht : P.underlying t = some .string) : ∃ s, d = .lit (.string s) ∧ a = .str s ∧ s.length ≤ maxLen := by
  cases h with
  | str ht' hs => exact ⟨_, rfl, rfl, hs⟩
  | bool ht' => rw [ht] at ht'; cases ht'
  | int ht' => rw [ht] at ht'; cases ht'
  | nils ht' => rw [ht] at ht'; cases ht'
  | sl ht' => rw [ht] at ht'; cases ht'
  | st ht' => rw [ht] at ht'; cases ht'
theorem RdD.inv_int {k : IntKind} (h : RdD P t d a) (ht : P.underlying t = some (.int k)) : ∃ n, d = .lit (.int k n) ∧ a = .int k n ∧ (Lit.int k n).wf = true := by
  cases h with
  | int ht' hs => rw [ht] at ht'; cases ht'; exact ⟨_, rfl, rfl, hs⟩
  | bool ht' => rw [ht] at ht'; cases ht'
  | str ht' => rw [ht] at ht'; cases ht'
  | nils ht' => rw [ht] at ht'; cases ht'
  | sl ht' => rw [ht] at ht'; cases ht'
  | st ht' => rw [ht] at ht'; cases ht'
theorem RdD.inv_sl {e : TypeId} (h : RdD P t d a) (ht : P.underlying t = some (.slice e)) :
    ∃ (ds : List (DataW H)) (xs : List AV), a = .sl true false (P.cellsOf e) xs ∧ xs.length = ds.length ∧ xs.length ≤ maxLen ∧ (∀ i (h1 : i < ds.length) (h2 : i < xs.length), RdD P e ds[i] xs[i]) ∧ ((d = .nil ∧ ds = []) ∨ ∃ rest, d = .slice ds rest) := by
  cases h with
  | nils ht' => rw [ht] at ht'; cases ht'; exact ⟨[], [], rfl, rfl, Nat.zero_le _, fun i h => absurd h (by simp), .inl ⟨rfl, rfl⟩⟩
  | sl ht' hl hm h => rw [ht] at ht'; cases ht'; exact ⟨_, _, rfl, hl, hm, h, .inr ⟨_, rfl⟩⟩
  | bool ht' => rw [ht] at ht'; cases ht'
  | int ht' => rw [ht] at ht'; cases ht'
  | str ht' => rw [ht] at ht'; cases ht'
  | st ht' => rw [ht] at ht'; cases ht'
theorem RdD.each {α : Type} {e : TypeId} (f : α → AV) (g : α → DataW H → Prop) {ds : List (DataW H)} {xs : List AV} (hl : xs.length = ds.length) (h : ∀ i (h1 : i < ds.length) (h2 : i < xs.length), RdD P e ds[i] xs[i])
    (hf : ∀ d x, RdD P e d x → ∃ y, x = f y ∧ g y d) : ∃ ys : List α, xs = ys.map f ∧ ys.length = ds.length ∧ ∀ i (h1 : i < ds.length) (h2 : i < ys.length), g ys[i] ds[i] := by
  induction xs generalizing ds with
  | nil =>
    obtain rfl : ds = [] := List.eq_nil_of_length_eq_zero (by simpa using hl.symm)
    exact ⟨[], rfl, rfl, fun i h => absurd h (by simp)⟩
  | cons x xs ih =>
    cases ds with
    | nil => simp at hl
    | cons d ds =>
      obtain ⟨y, hy, hg⟩ := hf d x (h 0 (by simp) (by simp))
      obtain ⟨ys, h1, h2, h3⟩ := ih (ds := ds) (by simpa using hl) (fun i k1 k2 => h (i + 1) (Nat.succ_lt_succ k1) (Nat.succ_lt_succ k2))
      refine ⟨y :: ys, by rw [hy, h1]; rfl, by simp [h2], fun i k1 k2 => ?_⟩
      cases i with
      | zero => exact hg
      | succ i => exact h3 i (Nat.lt_of_succ_lt_succ k1) (Nat.lt_of_succ_lt_succ k2)
end
end Go.Ab
end
section
set_option linter.unusedVariables false
set_option linter.unusedSimpArgs false
namespace Go.Ab
open Go Go.WideShapes
mutual
def avB : AV → Nat
  | .str s => s.length
  | .sl _ _ _ xs => avS xs
  | .agg cs => avC cs
  | _ => 0
def avS : List AV → Nat
  | [] => 0
  | x :: r => avB x + 1 + avS r
def avC : List AV → Nat
  | [] => 0
  | x :: r => avB x + avC r
end
theorem avC_append (a b : List AV) : avC (a ++ b) = avC a + avC b := by
  induction a with
  | nil => simp [avC]
  | cons x a ih => simp only [List.cons_append, avC, ih]; omega
theorem avC_cells (x : AV) : avC x.cells ≤ avB x := by
  cases x <;> simp [AV.cells, avC, avB]
theorem avC_flat (xs : List AV) : avC (xs.flatMap AV.cells) ≤ avC xs := by
  induction xs with
  | nil => simp
  | cons x xs ih =>
    have := avC_cells x
    simp only [List.flatMap_cons, avC_append, avC]; omega
theorem avC_le_avS (xs : List AV) : avC xs ≤ avS xs := by
  induction xs with
  | nil => simp [avC, avS]
  | cons x xs ih => simp only [avC, avS]; omega
theorem avS_mem {x : AV} : ∀ {xs : List AV}, x ∈ xs → avB x + 1 ≤ avS xs
  | y :: ys, h => by
    rcases List.mem_cons.1 h with rfl | h
    · simp only [avS]; omega
    · have := avS_mem h; simp only [avS]; omega
theorem avS_len : ∀ xs : List AV, xs.length ≤ avS xs
  | [] => Nat.zero_le _
  | x :: xs => by have := avS_len xs; simp only [avS, List.length_cons]; omega
theorem bulk_all {P : Program} {H : Type} {B : DataW H → Nat} {BA : List (DataW H) → Nat} (hn : BA [] = 0) (hc : ∀ d r, BA (d :: r) = B d + BA r) : ∀ {ds : List (DataW H)} {xs : List AV}, xs.length = ds.length →
    (∀ i (h1 : i < ds.length) (h2 : i < xs.length), avB xs[i] + 1 ≤ B ds[i]) → avS xs ≤ BA ds
  | [], xs, hl, h => by
    obtain rfl : xs = [] := List.eq_nil_of_length_eq_zero (by simpa using hl)
    simp [avS]
  | d :: ds, xs, hl, h => by
    cases xs with
    | nil => simp at hl
    | cons x xs =>
      have h0 := h 0 (by simp) (by simp)
      have := bulk_all (P := P) (B := B) hn hc (ds := ds) (xs := xs) (by simpa using hl) (fun i h1 h2 => h (i + 1) (Nat.succ_lt_succ h1) (Nat.succ_lt_succ h2))
      simp only [avS, hc]
      simp only [List.getElem_cons_zero] at h0
      omega
theorem RdD.bulk {P : Program} {H : Type} {B : DataW H → Nat} {BA : List (DataW H) → Nat} (hn : BA [] = 0) (hc : ∀ d r, BA (d :: r) = B d + BA r) (h1 : ∀ d, 1 ≤ B d) (hs : ∀ s, B (.lit (.string s)) = s.length + 1)
    (hsl : ∀ a b, B (.slice a b) = BA a + BA b + 1) (hag : ∀ a, B (.agg a) = BA a + 1) {t : TypeId} {d : DataW H} {a : AV} (h : RdD P t d a) : avB a + 1 ≤ B d := by
  induction h with
  | bool => simpa [avB] using h1 _
  | int => simpa [avB] using h1 _
  | str => simp [avB, hs]
  | nils => simpa [avB, avS] using h1 _
  | sl ht hl hm h ih =>
    have := bulk_all (P := P) (B := B) hn hc hl ih
    rw [hsl]; simp only [avB]; omega
  | st ht hd hx h ih =>
    have := bulk_all (P := P) (B := B) hn hc (by omega) (fun i a b => ih i a b (by omega))
    rw [hag]; simp only [avB]
    rename_i t fs ds xs
    have k1 := avC_flat xs
    have k2 := avC_le_avS xs
    omega
end Go.Ab
end
section
set_option linter.unusedVariables false
set_option linter.unusedSimpArgs false
set_option maxRecDepth 20000
namespace Go.Proofs.Ytjaflkgfipaajaa
open Go Go.Ab
def IsI64 (z : Int) : Prop := -9223372036854775808 ≤ z ∧ z ≤ 9223372036854775807
end Go.Proofs.Ytjaflkgfipaajaa
end
section
set_option linter.unusedVariables false
set_option linter.unusedSimpArgs false
set_option maxRecDepth 20000
namespace Go.Proofs.Ytjaflkgfipaajaa
open Go Go.Ab
def QJ.wf (j : QJ) : Prop := IsI64 j.ten ∧ IsI64 j.cost
theorem open_job {H : Type} {d : DataW H} {a : AV} (h : RdD Try.prog 34 d a) : ∃ f : QJ, a = jobA f ∧ f.wf := by
  obtain ⟨ds, xs, rfl, rfl, hall⟩ := h.inv_st Try.underlying34
  obtain ⟨d0, ds, x0, xs, rfl, rfl, h0, hall⟩ := hall.cons
  obtain ⟨d1, ds, x1, xs, rfl, rfl, h1, hall⟩ := hall.cons
  obtain ⟨d2, ds, x2, xs, rfl, rfl, h2, hall⟩ := hall.cons
  obtain ⟨rfl, rfl⟩ := hall.nil
  obtain ⟨s0, rfl, rfl, w0⟩ := h0.inv_int Try.underlying3
  obtain ⟨s1, rfl, rfl, _⟩ := h1.inv_str Try.underlying9
  obtain ⟨s2, rfl, rfl, w2⟩ := h2.inv_int Try.underlying3
  exact ⟨⟨s0, s1, s2⟩, rfl, by simpa [IsI64, Lit.wf, IntKind.min, IntKind.max, IntKind.signed, IntKind.bits] using w0, by simpa [IsI64, Lit.wf, IntKind.min, IntKind.max, IntKind.signed, IntKind.bits] using w2⟩
end Go.Proofs.Ytjaflkgfipaajaa
end
section
set_option linter.unusedVariables false
set_option linter.unusedSimpArgs false
set_option maxRecDepth 20000
namespace Go.Proofs.Ytjaflkgfipaajaa
open Go Go.Ab
structure QM where
  kind : Int
  job : QJ
def QM.cells (m : QM) : List AV := [.int .i64 m.kind, .int .i64 m.job.ten, .str m.job.name, .int .i64 m.job.cost]
def mvA (m : QM) : AV := .agg m.cells
def mvsA (l : List QM) : List AV := l.map mvA
theorem mvsA_len (l : List QM) : (mvsA l).length = l.length := by simp [mvsA]
theorem mvsA_bulk (l : List QM) : ∀ m ∈ l, m.job.name.length ≤ avS (mvsA l) := fun m hm => by
  have h1 := avS_mem (show mvA m ∈ mvsA l from List.mem_map_of_mem hm)
  have h2 : avB (mvA m) = 0 + (0 + (m.job.name.length + (0 + 0))) := rfl
  omega
def QM.wf (m : QM) : Prop := IsI64 m.kind ∧ m.job.wf
theorem open_V {H : Type} {d : DataW H} {a : AV} (h : RdD Try.prog 45 d a) : ∃ l : List QM, a = .sl true false 4 (mvsA l) ∧ ∀ m ∈ l, m.wf := by
  obtain ⟨ds, xs, rfl, hl, hm, hall, _⟩ := h.inv_sl Try.underlying45
  obtain ⟨ys, rfl, hy, hg⟩ := RdD.each mvA (fun m _ => m.wf) hl hall (fun d x h => by
    obtain ⟨ds, xs, rfl, rfl, hall⟩ := h.inv_st Try.underlying50
    obtain ⟨d0, ds, x0, xs, rfl, rfl, h0, hall⟩ := hall.cons
    obtain ⟨d1, ds, x1, xs, rfl, rfl, h1, hall⟩ := hall.cons
    obtain ⟨rfl, rfl⟩ := hall.nil
    obtain ⟨s0, rfl, rfl, w0⟩ := h0.inv_int Try.underlying3
    obtain ⟨f, rfl, hf⟩ := open_job h1
    exact ⟨⟨s0, f⟩, rfl, by simpa [IsI64, Lit.wf, IntKind.min, IntKind.max, IntKind.signed, IntKind.bits] using w0, hf⟩)
  have hc : Try.prog.cellsOf 50 = 4 := by kernel_rfl
  exact ⟨ys, by rw [hc]; rfl, fun z hz => by
    obtain ⟨i, hi, rfl⟩ := List.getElem_of_mem hz
    exact hg i (by omega) hi⟩
end Go.Proofs.Ytjaflkgfipaajaa
end
section
set_option linter.unusedVariables false
set_option linter.unusedSimpArgs false
namespace Go.Ab
open Go
section
variable {cx : Cx} {n : Nat} {B : Bs} {k : List AI} {Q : Post} {fr : Fr} {σ : Heap}
theorem wpAny_frontR {Stg : Array Bool → List AV → Heap → Prop} {ops : Array Oper} {m : Nat} {K : List Nat} {Q' : Exit → Act → World → Prop} (hmN : m ≤ ops.size) (hlen : ∀ listed vals σ, Stg listed vals σ → vals.length = m)
    (hread : ∀ j o t, j < m → ops.toList[j]? = some o → t ∈ slotsOf ops.toList o → readOk ops.toList m j t = true)
    (huniq : ∀ i j d, i < m → j < m → dstOf ops.toList i = some d → dstOf ops.toList j = some d → i = j)
    (hch : ∀ j, m < j → j < ops.size → edge ops.toList j (j - 1) = true) (hlo : ∀ j i, edge ops.toList j i = true → i < j)
    (hcl : m < ops.size → ∀ i, i < m → ∃ k, i < k ∧ k ≤ m ∧ edge ops.toList k i = true)
    (hdst : ∀ (j : Nat) (o : Oper), j < m → ops.toList[j]? = some o → dstOk n o.dst = true)
    (hstep : ∀ (listed : Array Bool) (vals : List AV) (σ : Heap), Stg listed vals σ → ∀ (j : Nat) o, j < m → ops.toList[j]? = some o → listed.size = ops.size → ¬ Listed listed j → (∀ i, edge ops.toList j i = true → Listed listed i) → Down ops.toList listed →
      (guardA ops o K (restr ops.toList o (ovl (ops.toList.take j) (vals.take j) fr)) = some false ∧ Stg (listed.setIfInBounds j true) (vals.set j (.tup [])) σ) ∨
      (guardA ops o K (restr ops.toList o (ovl (ops.toList.take j) (vals.take j) fr)) = some true ∧ ∀ r a w, Inv cx r σ w → FRel r w n (restr ops.toList o (ovl (ops.toList.take j) (vals.take j) fr)) a → ∀ Q, o.wp cx.P a w (fun a' w' => ∃ v σ', Stg (listed.setIfInBounds j true) (vals.set j v) σ' ∧ ∃ r' v', a' = a.put o.dst v' ∧ VRel r' w' v' v ∧ Inv cx r' σ' w' ∧ Ext r σ w r' σ' w') Q))
    (hend : ∀ (listed : Array Bool) (vals : List AV) (σ : Heap), Stg listed vals σ → (∀ j, j < m → Listed listed j) → ∀ r a w, Inv cx r σ w → FRel r w n (ovl (ops.toList.take m) vals fr) a → Dfs B a → Ext B.r B.σ B.w r σ w → wpList cx.P ops Q' (ops.toList.drop m) a w) :
    ∀ (f : Nat) (listed : Array Bool) (vals : List AV) (σ : Heap) (r : Rl) (a : Act) (w : World), Stg listed vals σ → listed.size = ops.size → unl listed = f → Down ops.toList listed → (∀ j, m ≤ j → ¬ Listed listed j) →
      FL r w n fr ops.toList m vals listed a → Inv cx r σ w → Dfs B a → Ext B.r B.σ B.w r σ w → wpAny cx.P .any ops Q' f listed a w := by
  have ovlN : ∀ (vals : List AV), vals.length = m → ∀ i, i ≤ m → ∀ vs, (ovl (ops.toList.take i) (vals.take i) fr).get n = .mark vs → fr.get n = .mark vs := by
    intro vals hlen i him vs hm
    rcases ovl_get (ops.toList.take i) (vals.take i) fr n (by simp [hlen]; omega) with ⟨i', o', v', k1, k2, k3, k4⟩ | ⟨k1, k2⟩
    · exfalso
      have hi'i : i' < i := by
        rcases Nat.lt_or_ge i' i with h' | h'
        · exact h'
        · rw [List.getElem?_eq_none (by simp; omega)] at k1; cases k1
      rw [List.getElem?_take_of_lt hi'i] at k1 k3
      have hds : dstOk n o'.dst = true := hdst i' o' (by omega) k1
      rw [k2] at hds
      have := blt_lt hds
      omega
    · rw [← k2]; exact hm
  have fin : ∀ (f : Nat) (listed : Array Bool) (vals : List AV) (σ : Heap) (r : Rl) (a : Act) (w : World), Stg listed vals σ → listed.size = ops.size → unl listed = f → (∀ j, j < m → Listed listed j) → (∀ j, m ≤ j → ¬ Listed listed j) →
      FL r w n fr ops.toList m vals listed a → Inv cx r σ w → Dfs B a → Ext B.r B.σ B.w r σ w → wpAny cx.P .any ops Q' f listed a w := by
    intro f listed vals σ r a w hS hs hf hall hno hfl hi hd hx
    have hlen := hlen _ _ _ hS
    have hcount : unl listed + m = ops.size := by
      have hl : listed.toList = List.replicate m true ++ List.replicate (ops.size - m) false := by
        apply List.ext_getElem
        · simp; omega
        · intro j h1 h2
          have hj : j < listed.size := by simpa using h1
          have h3 : listed.getD j false = listed.toList[j] := by simp [Array.getD_eq_getD_getElem?, hj]
          by_cases hjm : j < m
          · rw [List.getElem_append_left (by simpa using hjm), List.getElem_replicate, ← h3]; exact hall j hjm
          · rw [List.getElem_append_right (by simp; omega), List.getElem_replicate, ← h3]
            have := hno j (by omega)
            unfold Listed at this
            simpa using this
      unfold unl
      rw [hl, List.countP_append, List.countP_replicate, List.countP_replicate]
      simp; omega
    refine wpAny_tail hch hlo f m listed a w (by omega) (Nat.le_refl m) hs (fun i hi' => ⟨fun h => ?_, fun h => hall i h⟩) (hend listed vals σ hS hall r a w hi ⟨hfl.size, fun t => ?_, fun vs hm => ?_⟩ hd hx)
    case refine_3 =>
      refine hfl.defs vs (ovlN vals hlen m (Nat.le_refl _) vs ?_)
      rw [show vals.take m = vals from List.take_of_length_le (by omega)]
      exact hm
    · rcases Nat.lt_or_ge i m with h' | h'
      · exact h'
      · exact absurd h (hno i h')
    · rcases ovl_get (ops.toList.take m) vals fr t (by simp [hlen]; omega) with ⟨i, o, v, h1, h2, h3, h4⟩ | ⟨h1, h2⟩
      · rw [h4]
        have him : i < m := by
          rcases Nat.lt_or_ge i m with h' | h'
          · exact h'
          · rw [List.getElem?_eq_none (by simp; omega)] at h1; cases h1
        rw [List.getElem?_take_of_lt him] at h1
        exact hfl.done i t v him (hall i him) (by simp [dstOf, h1, h2]) h3
      · rw [h2]
        refine hfl.rest t (fun j hj _ hdj => ?_)
        obtain ⟨o, ho, hod⟩ := Option.bind_eq_some_iff.1 hdj
        exact h1 j o (by rw [List.getElem?_take_of_lt hj]; exact ho) hod
  intro f
  induction f with
  | zero =>
    intro listed vals σ r a w hS hs hf hdn hno hfl hi hd hx
    refine fin 0 listed vals σ r a w hS hs hf (fun j hj => ?_) hno hfl hi hd hx
    rcases hb : listed.getD j false with _ | _
    · have := unl_set (by omega) hb
      omega
    · exact hb
  | succ f ih =>
    intro listed vals σ r a w hS hs hf hdn hno hfl hi hd hx
    have hlenS := hlen _ _ _ hS
    by_cases hall : ∀ j, j < m → Listed listed j
    · exact fin (f + 1) listed vals σ r a w hS hs hf hall hno hfl hi hd hx
    have hex : ∃ j, j < m ∧ ¬ Listed listed j := by
      apply Classical.byContradiction
      intro h
      exact hall (fun j hj => Classical.byContradiction fun hl => h ⟨j, hj, hl⟩)
    refine ⟨fun h0 => ?_, fun i hir => ?_⟩
    · obtain ⟨j, h1, h2, h3⟩ := exists_least m hex
      have hjr : j ∈ Region.ready .any ops listed := by
        refine mem_ready.2 ⟨?_, ops[j]'(by omega), Array.getElem?_eq_getElem _, fun e he hb => ?_⟩
        · rw [listed_true (by omega)]; simpa [Listed] using h2
        · have h4 : e.on < j := hlo j e.on (edge_iff.2 ⟨ops[j]'(by omega), Array.getElem?_eq_getElem _, e, he, hb, rfl⟩)
          exact Classical.byContradiction fun h5 => h3 e.on h4 h5
      rw [h0] at hjr; cases hjr
    · obtain ⟨h0, o, ho, hedges⟩ := mem_ready.1 hir
      have hilt := (Array.getElem?_eq_some_iff.1 ho).1
      rw [listed_true (by omega)] at h0
      have hed : ∀ j, edge ops.toList i j = true → Listed listed j := by
        intro j hj
        obtain ⟨o', ho', e, he, hb, hon⟩ := edge_iff.1 hj
        rw [ho] at ho'; cases ho'
        rw [← hon]; exact hedges e he hb
      have him : i < m := by
        rcases Nat.lt_or_ge i m with h' | h'
        · exact h'
        · exfalso
          rcases Nat.eq_or_lt_of_le h' with h'' | h''
          · subst h''
            refine hall (fun j hj => ?_)
            have key : ∀ d j, d + j = m → j < m → Listed listed j := by
              intro d
              induction d using Nat.strongRecOn with
              | _ d ihd =>
                intro j hdj hj
                obtain ⟨k, h1, h2, h3⟩ := hcl hilt j hj
                rcases Nat.eq_or_lt_of_le h2 with h4 | h4
                · subst h4; exact hed j h3
                · exact hdn k j (ihd (m - k) (by omega) k (by omega) h4) h3
            exact key (m - j) j (by omega) hj
          · exact hno (i - 1) (by omega) (hed _ (hch i h'' hilt))
      have hol : ops.toList[i]? = some o := by simpa using ho
      have hst := hstep listed vals σ hS i o him hol hs (by simp [Listed, h0]) hed hdn
      have hdstI := hdst i o him hol
      have hnl : ¬ Listed listed i := by simp [Listed, h0]
      have hfr : FRel r w n (restr ops.toList o (ovl (ops.toList.take i) (vals.take i) fr)) a := by
        refine ⟨hfl.size, fun t => ?_, fun vs hm => ?_⟩
        case refine_2 =>
          unfold restr at hm
          rcases restr_get (slotsOf ops.toList o) (ovl (ops.toList.take i) (vals.take i) fr) n with h | ⟨h1, h2⟩
          · rw [h] at hm; cases hm
          · rw [h2] at hm
            exact hfl.defs vs (ovlN vals hlenS i (by omega) vs hm)
        unfold restr
        rcases restr_get (slotsOf ops.toList o) (ovl (ops.toList.take i) (vals.take i) fr) t with h | ⟨h1, h2⟩
        · rw [h]; exact .top
        · rw [h2]
          have hro := hread i o t him hol h1
          have hrd : ∀ i', i' < m → dstOf ops.toList i' = some t → (i' < i → edge ops.toList i i' = true) ∧ (i < i' → edge ops.toList i' i = true) := by
            intro i' hi' hd'
            have := allB_mem hro _ (List.mem_map.2 ⟨i', List.mem_range.2 hi', rfl⟩)
            rw [eqDst_iff.2 hd'] at this
            simp only at this
            constructor
            · intro hlt
              rw [lt_blt hlt] at this
              exact this
            · intro hlt
              rw [show Nat.blt i' i = false by cases hbb : Nat.blt i' i with | false => rfl | true => (have := blt_lt hbb; omega), show Nat.beq i' i = false by cases hbb : Nat.beq i' i with | false => rfl | true => (have := Nat.eq_of_beq_eq_true hbb; omega)] at this
              exact this
          rcases ovl_get (ops.toList.take i) (vals.take i) fr t (by simp [hlenS]; omega) with ⟨i', o', v', k1, k2, k3, k4⟩ | ⟨k1, k2⟩
          · rw [k4]
            have hi'i : i' < i := by
              rcases Nat.lt_or_ge i' i with h' | h'
              · exact h'
              · rw [List.getElem?_eq_none (by simp; omega)] at k1; cases k1
            rw [List.getElem?_take_of_lt hi'i] at k1 k3
            have hd' : dstOf ops.toList i' = some t := by simp only [dstOf, k1, Option.bind_some, k2]
            exact hfl.done i' t v' (by omega) (hed _ ((hrd i' (by omega) hd').1 hi'i)) hd' k3
          · rw [k2]
            refine hfl.rest t (fun j hj hlj hdj => ?_)
            rcases Nat.lt_trichotomy j i with h' | h' | h'
            · obtain ⟨oj, hoj, hod⟩ := Option.bind_eq_some_iff.1 hdj
              exact k1 j oj (by rw [List.getElem?_take_of_lt h']; exact hoj) hod
            · subst h'; exact hnl hlj
            · exact hnl (hdn j i hlj ((hrd j hj hdj).2 h'))
      have next : ∀ (r' : Rl) (w' : World) (v' : Value) (v : AV) (σ' : Heap), Stg (listed.setIfInBounds i true) (vals.set i v) σ' → VRel r' w' v' v → Inv cx r' σ' w' → Ext r σ w r' σ' w' → wpAny cx.P .any ops Q' f (listed.setIfInBounds i true) (a.put o.dst v') w' := by
        intro r' w' v' v σ' hS' hv' hi' hx'
        have hun := unl_set (by omega) h0
        refine ih _ (vals.set i v) σ' r' _ w' hS' (by simpa using hs) (by omega) (fun j l hj he => ?_) (fun j hj hl => ?_) ⟨?_, fun j d u hj hl hdj hu => ?_, fun t ht => ?_, fun vs hm => by rw [Act.put_defers]; exact (hfl.defs vs hm).mono (hx'.grow hi)⟩ hi' (hd.put _ _) (hx.trans hx')
        · rw [listed_set (by omega)] at hj ⊢
          rcases hj with rfl | hj
          · exact .inr (hed l he)
          · exact .inr (hdn j l hj he)
        · rw [listed_set (by omega)] at hl
          rcases hl with rfl | hl
          · omega
          · exact hno j hj hl
        · cases hod : o.dst <;> simp [Act.put, hfl.size]
        · have hg := hx'.grow hi
          rw [listed_set (by omega)] at hl
          by_cases hji : j = i
          · subst hji
            rw [List.getElem?_set, if_pos rfl, if_pos (by omega)] at hu; cases hu
            have hod : o.dst = some d := by simpa [dstOf, hol] using hdj
            rw [hod]
            rw [hod] at hdstI
            simp only [Act.put]
            rw [getD_setIfInBounds (by rw [hfl.size]; exact blt_lt hdstI), if_pos rfl]
            exact hv'
          · have hl' := hl.resolve_left hji
            rw [List.getElem?_set, if_neg (Ne.symm hji)] at hu
            have hold := (hfl.done j d u hj hl' hdj hu).mono hg
            cases hod : o.dst with
            | none => exact hold
            | some d' =>
              have hne : d' ≠ d := fun e => hji (huniq j i d hj him hdj (by subst e; simp [dstOf, hol, hod]))
              rw [hod] at hdstI
              simp only [Act.put]
              rw [getD_setIfInBounds (by rw [hfl.size]; exact blt_lt hdstI), if_neg hne]
              exact hold
        · have hg := hx'.grow hi
          have hold := (hfl.rest t (fun j hj hl => ht j hj ((listed_set (by omega)).2 (.inr hl)))).mono hg
          have hti := ht i him ((listed_set (by omega)).2 (.inl rfl))
          cases hod : o.dst with
          | none => exact hold
          | some d' =>
            have hne : d' ≠ t := fun e => hti (by subst e; simp [dstOf, hol, hod])
            rw [hod] at hdstI
            simp only [Act.put]
            rw [getD_setIfInBounds (by rw [hfl.size]; exact blt_lt hdstI), if_neg hne]
            exact hold
      unfold wpOp
      simp only [ho]
      rcases hst with ⟨hg, hS'⟩ | ⟨hg, hgo⟩
      · rw [guardA_wanted (cx := cx) hfr hg]
        simp only [Bool.false_eq_true, if_false]
        exact next r w undef (.tup []) σ hS' (.tup rfl (fun i h => absurd h (by simp))) hi (Ext.refl _ _ _)
      · rw [guardA_wanted (cx := cx) hfr hg]
        simp only [if_true]
        refine .inl (Oper.wp_mono (fun a' w' h => ?_) (hgo r a w hi hfr Q'))
        obtain ⟨v, σ', hS', r', v', rfl, h2, h3, h4⟩ := h
        exact next r' w' v' v σ' hS' h2 h3 h4
def StepR (cx : Cx) (n : Nat) (all : Array Oper) (σ : Heap) (R : AV → Heap → Prop) (K : List Nat) (fr : Fr) (o : Oper) : Prop :=
  guardA all o K fr = some true ∧ ∀ r a w, Inv cx r σ w → FRel r w n fr a → ∀ Q, o.wp cx.P a w (fun a' w' => ∃ v σ', R v σ' ∧ ∃ r' v', a' = a.put o.dst v' ∧ VRel r' w' v' v ∧ Inv cx r' σ' w' ∧ Ext r σ w r' σ' w') Q
theorem callR_step {R : AV → Heap → Prop} {R' : Out → Heap → Prop} {K : List Nat} {all : Array Oper} {o : Oper} {f : FuncId} {args : List AV} (hg : guardA all o K fr = some true) (hc : callA cx fr o.op = some (f, args))
    (h : CallOk cx f args σ R') (hR : ∀ out t, R' out t → ∃ v, out = .ret v ∧ R v t) : StepR cx n all σ R K fr o := by
  refine ⟨hg, fun r a w hi hf Q => ?_⟩
  obtain ⟨vs, h1, h2⟩ := callA_run hi hf hc h.1
  unfold Oper.wp
  rw [h1, Oper.upon_enter]
  refine (h.2 r w vs hi h2).mono fun e w' ⟨out, σ1, r', hR1, hor, hi', hx'⟩ => ?_
  obtain ⟨v, rfl, hv⟩ := hR _ _ hR1
  cases e with
  | returned u => exact ⟨v, σ1, hv, r', u, rfl, hor, hi', hx'⟩
  | panicked chain => exact hor.elim
  | outgrown => exact hor.elim
theorem S_drawRR {id : Nat} {ops : Array Oper} (j1 j2 m : Nat) (rs : AV → AV → List AV) (R1 : AV → Heap → Prop) (R2 : AV → Heap → AV → Heap → Prop) (Good : Heap → Prop) {C : Heap → AV → AV → List Prop} {V : AV → AV → List AV} {fr' : AV → AV → Fr} (hP : cx.P.follows .mixedOrders = true) (hchk : drawOk ops.toList m = true) (hmN : Nat.ble m ops.size = true) (hj : Nat.blt j1 j2 = true) (hj2 : Nat.blt j2 m = true) (he : edge ops.toList j2 j1 = true) (hds : (ops.toList.take m).all (fun o => dstOk n o.dst) = true)
    (hrun : ∀ s v1 v2, runZ cx (guardKs ops.toList ops.toList) n ops ops.toList s [j1, j2] [] (ops.toList.take m) 0 fr (rs v1 v2) (fun C vs f => some (C, vs, f)) = some (C s v1 v2, V v1 v2, fr' v1 v2)) (hV1 : ∀ u v1 v2, (V v1 v2).set j1 u = V u v2) (hV2 : ∀ u v1 v2, (V v1 v2).set j2 u = V v1 u)
    (hg0 : Good σ) (hg1 : ∀ v1 σ1, R1 v1 σ1 → Good σ1) (hg2 : ∀ v1 σ1 v2 σ2, R1 v1 σ1 → R2 v1 σ1 v2 σ2 → Good σ2) (hC : ∀ s v1 v2, Good s → AllP (C s v1 v2))
    (hs1 : ∀ o, ops.toList[j1]? = some o → StepR cx n ops σ R1 (guardKs ops.toList ops.toList) (restr ops.toList o (ovl (ops.toList.take j1) ((V .top .top).take j1) fr)) o)
    (hs2 : ∀ v1 σ1, R1 v1 σ1 → ∀ o, ops.toList[j2]? = some o → StepR cx n ops σ1 (R2 v1 σ1) (guardKs ops.toList ops.toList) (restr ops.toList o (ovl (ops.toList.take j2) ((V v1 .top).take j2) fr)) o)
    (hk : ∀ v1 σ1 v2 σ2, R1 v1 σ1 → R2 v1 σ1 v2 σ2 → S cx n B (.ops ops (ops.toList.drop m) [] :: k) Q (fr' v1 v2) σ2) : S cx n B (.code (.region id ops true) :: k) Q fr σ := by
  intro r a w hi hf hd hx
  obtain ⟨c1, c2, c3, c4, c5⟩ := drawOk_spec hchk
  have key : ∀ s v1 v2, (V v1 v2).length = (ops.toList.take m).length ∧ fr' v1 v2 = ovl (ops.toList.take m) (V v1 v2) fr ∧ (Good s → ∀ (j : Nat) (o : Oper) (v : AV), (ops.toList.take m)[j]? = some o → (V v1 v2)[j]? = some v → 0 + j ∉ [j1, j2] → StepX cx n ops s s (guardKs ops.toList ops.toList) (restr ops.toList o (ovl ((ops.toList.take m).take j) ((V v1 v2).take j) fr)) o v) := fun s v1 v2 => by
    obtain ⟨C', vals', fr'', e, k1, k2, k3⟩ := runZ_spec _ _ _ _ _ (hrun s v1 v2)
    simp only [Option.some.injEq, Prod.mk.injEq] at e
    obtain ⟨rfl, rfl, rfl⟩ := e
    exact ⟨k1, k2, fun hs j o v a b c => k3 (hC s v1 v2 hs) j o v a b c List.not_mem_nil⟩
  have hmN' := Nat.le_of_ble_eq_true hmN
  have hjlt := blt_lt hj
  have hjlt2 := blt_lt hj2
  have hlen : ∀ v1 v2, (V v1 v2).length = m := fun v1 v2 => by rw [(key σ v1 v2).1, List.length_take, Array.length_toList]; omega
  obtain ⟨hi1, hx1⟩ := hi.heap_eq (w' := { w with drawn := w.drawn + 1 }) rfl rfl rfl rfl
  have hf1 := hf.mono (hx1.grow hi)
  have nl : ∀ {j : Nat}, ¬ Listed (Array.replicate ops.size false) j := by
    intro j hj
    unfold Listed at hj
    rw [Array.getD_eq_getD_getElem?, Array.getElem?_replicate] at hj
    split at hj <;> simp at hj
  have hgs : ∀ (listed : Array Bool) (i j : Nat), i < listed.size → (listed.setIfInBounds i true).getD j false = if j = i then true else listed.getD j false := by
    intro listed i j hil
    simp only [Array.getD_eq_getD_getElem?, Array.getElem?_setIfInBounds]
    by_cases h : i = j
    · subst h; simp [hil]
    · rw [if_neg h, if_neg (Ne.symm h)]
  obtain ⟨Stg, hStg⟩ : ∃ Stg : Array Bool → List AV → Heap → Prop, Stg = fun listed vals s => (¬ Listed listed j1 ∧ ¬ Listed listed j2 ∧ vals = V .top .top ∧ s = σ) ∨ (Listed listed j1 ∧ ¬ Listed listed j2 ∧ ∃ v1, R1 v1 s ∧ vals = V v1 .top) ∨ (Listed listed j1 ∧ Listed listed j2 ∧ ∃ v1 σ1 v2, R1 v1 σ1 ∧ R2 v1 σ1 v2 s ∧ vals = V v1 v2) := ⟨_, rfl⟩
  have hform : ∀ listed vals s, Stg listed vals s → Good s ∧ ∃ v1 v2, vals = V v1 v2 := fun listed vals s h => by
    rw [hStg] at h
    rcases h with ⟨_, _, rfl, rfl⟩ | ⟨_, _, v1, h1, rfl⟩ | ⟨_, _, v1, σ1, v2, h1, h2, rfl⟩
    · exact ⟨hg0, _, _, rfl⟩
    · exact ⟨hg1 _ _ h1, _, _, rfl⟩
    · exact ⟨hg2 _ _ _ _ h1 h2, _, _, rfl⟩
  have hdst : ∀ (j : Nat) (o : Oper), j < m → ops.toList[j]? = some o → dstOk n o.dst = true := fun j o hjm ho => List.all_eq_true.1 hds o (List.mem_of_getElem? (by rw [List.getElem?_take_of_lt hjm]; exact ho))
  refine wp_region_any hP ?_
  refine wpAny_frontR (Stg := Stg) (cx := cx) (n := n) (B := B) (fr := fr) (m := m) (K := guardKs ops.toList ops.toList) hmN' (fun listed vals s hS => ?_) c1 c2 c3 c4 c5 hdst (fun listed vals s hS j o hjm ho hsz hnl hed hdn => ?_) (fun listed vals s hS hall r a w hi hf hd hx => ?_) ops.size _ (V .top .top) σ r a _ ?_ (by simp) ?_ (fun j i hj => ?_) (fun j _ => ?_) ⟨hf1.size, fun j d v _ hj => ?_, fun t _ => hf1.get t, hf1.defs⟩ hi1 hd (hx.trans hx1)
  · obtain ⟨_, v1, v2, rfl⟩ := hform _ _ _ hS
    exact hlen v1 v2
  · have hset : ∀ i, Listed (listed.setIfInBounds j true) i ↔ i = j ∨ Listed listed i := fun i => by
      unfold Listed
      rw [hgs _ _ _ (by omega)]
      by_cases e : i = j
      · subst e; simp
      · simp [e]
    by_cases e1 : j = j1
    · subst e1
      rw [hStg] at hS
      rcases hS with ⟨_, hn2, rfl, rfl⟩ | ⟨h1, _⟩ | ⟨h1, _⟩
      · obtain ⟨hg, hgo⟩ := hs1 o ho
        refine .inr ⟨hg, fun r a w hi hf Q => Oper.wp_mono (fun a' w' h => ?_) (hgo r a w hi hf Q)⟩
        obtain ⟨v, σ', hR, hrest⟩ := h
        refine ⟨v, σ', ?_, hrest⟩
        rw [hStg, hV1]
        exact .inr (.inl ⟨(hset j).2 (.inl rfl), fun h => ((hset j2).1 h).elim (fun e => by omega) hn2, v, hR, rfl⟩)
      · exact absurd h1 hnl
      · exact absurd h1 hnl
    · by_cases e2 : j = j2
      · subst e2
        have hl1 : Listed listed j1 := hed j1 he
        rw [hStg] at hS
        rcases hS with ⟨h1, _⟩ | ⟨_, _, v1, h1, rfl⟩ | ⟨_, h2, _⟩
        · exact absurd hl1 h1
        · obtain ⟨hg, hgo⟩ := hs2 v1 s h1 o ho
          refine .inr ⟨hg, fun r a w hi hf Q => Oper.wp_mono (fun a' w' h => ?_) (hgo r a w hi hf Q)⟩
          obtain ⟨v, σ', hR, hrest⟩ := h
          refine ⟨v, σ', ?_, hrest⟩
          rw [hStg, hV2]
          exact .inr (.inr ⟨(hset j1).2 (.inr hl1), (hset j).2 (.inl rfl), v1, s, v, h1, hR, rfl⟩)
        · exact absurd h2 hnl
      · obtain ⟨hgd, v1, v2, hv⟩ := hform _ _ _ hS
        obtain ⟨v, hvj⟩ : ∃ v, (V v1 v2)[j]? = some v := ⟨(V v1 v2)[j]'(by rw [hlen]; exact hjm), List.getElem?_eq_getElem _⟩
        have hX := (key s v1 v2).2.2 hgd j o v (by rw [List.getElem?_take_of_lt hjm]; exact ho) hvj (by rw [Nat.zero_add]; simp [e1, e2])
        rw [List.take_take, Nat.min_eq_left (by omega), ← hv] at hX
        have hsame : vals.set j v = vals := by
          rw [hv]
          obtain ⟨hlt, hge⟩ := List.getElem?_eq_some_iff.1 hvj
          rw [← hge, List.set_getElem_self]
        have hkeep : Stg (listed.setIfInBounds j true) (vals.set j v) s := by
          rw [hsame]
          rw [hStg] at hS ⊢
          rcases hS with ⟨h1, h2, h3⟩ | ⟨h1, h2, h3⟩ | ⟨h1, h2, h3⟩
          · exact .inl ⟨fun h => ((hset j1).1 h).elim (fun e => e1 e.symm) h1, fun h => ((hset j2).1 h).elim (fun e => e2 e.symm) h2, h3⟩
          · exact .inr (.inl ⟨(hset j1).2 (.inr h1), fun h => ((hset j2).1 h).elim (fun e => e2 e.symm) h2, h3⟩)
          · exact .inr (.inr ⟨(hset j1).2 (.inr h1), (hset j2).2 (.inr h2), h3⟩)
        rcases hX.2 with ⟨hg, rfl, _⟩ | ⟨hg, hgo⟩
        · exact .inl ⟨hg, hkeep⟩
        · refine .inr ⟨hg, fun r a w hi hf Q => Oper.wp_mono (fun a' w' h => ?_) (hgo r a w hi hf Q)⟩
          obtain ⟨r', v', h1, h2, h3, h4⟩ := h
          exact ⟨v, s, hkeep, r', v', h1, h2, h3, h4⟩
  · rw [hStg] at hS
    rcases hS with ⟨h1, _⟩ | ⟨_, h2, _⟩ | ⟨_, _, v1, σ1, v2, h1, h2, rfl⟩
    · exact absurd (hall j1 (by omega)) h1
    · exact absurd (hall j2 hjlt2) h2
    · have := hk v1 σ1 v2 s h1 h2
      rw [(key σ v1 v2).2.1] at this
      exact this r a w hi hf hd hx
  · rw [hStg]; exact .inl ⟨nl, nl, rfl, rfl⟩
  · unfold unl; simp [List.countP_replicate]
  · exact absurd hj nl
  · exact nl
  · exact absurd hj nl
end
end Go.Ab
end
section
set_option linter.unusedVariables false
set_option linter.unusedSimpArgs false
set_option maxRecDepth 20000
set_option maxHeartbeats 4000000
namespace Go.Proofs.Ytjaflkgfipaajaa
open Go Go.Ab
structure Both (σ : Heap) (rv : Nat) (es : List QL) (quan : Int) (ring : List QT) (L : RL) (s : RS) : Prop where
  q : QAt σ 0 1 rv es quan ring
  r : RAt σ L quan s
  lr : L.r = 2
  sim : Sim ring s
  ok : QOk quan ring
  dj : ∀ id, Own 0 1 es id → ¬ OwnR L id
theorem Both.toQ {σ σ' : Heap} {rv rv' : Nat} {es es' : List QL} {quan : Int} {ring ring' : List QT} {L : RL} {s : RS} (h : Both σ rv es quan ring L s) (hq : QAt σ' 0 1 rv' es' quan ring') (hk : QKeep σ σ' (Own 0 1 es) (Own 0 1 es')) :
    RAt σ' L quan s ∧ ∀ id, Own 0 1 es' id → ¬ OwnR L id := by
  refine ⟨h.r.mono hq.al fun id ho => hk.same id (h.r.lt id ho) fun h' => h.dj id h' ho, fun id ho hr => ?_⟩
  rcases hk.new id ho with h' | h'
  · exact h.dj id h' hr
  · have := h.r.lt id hr; omega
theorem toR {σ σ' : Heap} {rv : Nat} {es : List QL} {quan : Int} {ring : List QT} {L L' : RL} {s' : RS} (hq : QAt σ 0 1 rv es quan ring) (hd : ∀ id, Own 0 1 es id → ¬ OwnR L id) (hr : RAt σ' L' quan s') (hk : QKeep σ σ' (OwnR L) (OwnR L')) :
    QAt σ' 0 1 rv es quan ring ∧ ∀ id, Own 0 1 es id → ¬ OwnR L' id := by
  refine ⟨hq.keep hr.al fun id ho => hk.same id (hq.lt id ho) (hd id ho), fun id ho hr' => ?_⟩
  rcases hk.new id hr' with h' | h'
  · exact hd id ho h'
  · have := hq.lt id ho; omega
theorem Both.other {σ : Heap} {rv : Nat} {es : List QL} {quan : Int} {ring : List QT} {L : RL} {s : RS} (h : Both σ rv es quan ring L s) {p : Nat} (hp : σ.length ≤ p) : ¬ Own 0 1 es p ∧ ¬ OwnR L p :=
  ⟨fun ho => by have := h.q.lt _ ho; omega, fun ho => by have := h.r.lt _ ho; omega⟩
theorem Both.app {σ : Heap} {rv : Nat} {es : List QL} {quan : Int} {ring : List QT} {L : RL} {s : RS} (h : Both σ rv es quan ring L s) (v : Nat) (x : Box) : Both (σ ++ [(v, some x)]) rv es quan ring L s :=
  ⟨h.q.app v x, h.r.app v x, h.lr, h.sim, h.ok, h.dj⟩
theorem QueuePlays_ok (quan : Int) (l : List QM) (hq : -9223372036854775808 ≤ quan ∧ quan ≤ 9223372036854775807) (hb : avB (.sl true false 4 (mvsA l)) ≤ 1048576) (hmw : ∀ m ∈ l, m.wf) :
    Calc cx 6 [.int .i64 quan, .sl true false 4 (mvsA l)] (.bool true) :=
  pure_intro (fun a w => Try.call6 a w) Try.func6 rfl Try.ntmps6 rfl .bool fun B => by
    have hml := mvsA_len l
    have hll : l.length ≤ 1048576 := by
      have h1 := avS_len (mvsA l)
      have h2 : avS (mvsA l) ≤ 1048576 := hb
      omega
    have hnl : ∀ m ∈ l, m.job.name.length ≤ 1048576 := fun m hm => Nat.le_trans (mvsA_bulk l m hm) hb
    have hB := queueBegun_ok
    by_cases hqq : 1 ≤ quan ∧ quan ≤ 1000
    case neg =>
      have hN := NewE_ok quan (by omega)
      by_cases h1 : quan < 1
      · have c1 : decide (quan < 1) = true := decide_eq_true h1
        refine pao [.v (.bool true), .b false, .v (.tup [.nilp, .int .i64 3]), .b true, .b true, .b true] rfl ?_ ?_
        · (repeat' with_reducible apply AllP_cons) <;> try exact aC
          · exact ⟨[], hB, .nil _⟩
          · exact ⟨_, hN, .cons (.refl .int) (.nil _)⟩
        exact S_retc .bool rfl trivial rfl
      · have c1 : decide (quan < 1) = false := decide_eq_false h1
        have c2 : decide (quan > 1000) = true := decide_eq_true (by omega)
        refine pao [.v (.bool true), .b false, .v (.tup [.nilp, .int .i64 3]), .b false, .b true, .b true] rfl ?_ ?_
        · (repeat' with_reducible apply AllP_cons) <;> try exact aC
          · exact ⟨[], hB, .nil _⟩
          · exact ⟨_, hN, .cons (.refl .int) (.nil _)⟩
        exact S_retc .bool rfl trivial rfl
    have hN := New_ok quan hqq
    have c1 : decide (quan < 1) = false := decide_eq_false (by omega)
    have c2 : decide (quan > 1000) = false := decide_eq_false (by omega)
    refine pao [.v (.bool true), .b false, .f (.tup [.ptr 0 0 0, .int .i64 0]) (fun _ => newQ quan), .b false, .b false, .b false, .b false, .s] rfl ?_ ?_
    · (repeat' with_reducible apply AllP_cons) <;> try exact aC
      · exact ⟨[], hB, .nil _⟩
    refine S_ghost (id := 0) (gid := 1) (gver := 0) (j := 1) (σ' := newQ quan ++ [(0, some (.cells [] ⟨false, none⟩))]) 1 ⟨false, none⟩ rfl rfl rfl (by decide) ⟨.skip, _, .inr ⟨_, _, _, rfl⟩⟩ ?_
    refine S_heap (newH quan) rfl ?_
    refine pao [.f (.ptr 2 0 0) (fun t => t ++ [(0, some (.cells [.int .i64 quan, .nils, .nils, .bool false, .nils] ⟨false, some 48⟩))])] rfl ?_ ?_
    · (repeat' with_reducible apply AllP_cons) <;> try exact aC
      · exact OpSpec.boxE (y := .agg [.int .i64 quan, .nils, .nils, .bool false, .nils]) rfl rfl rfl rfl (newH_at quan).al
    refine S_ghost (id := 2) (gid := 3) (gver := 0) (j := 1) (σ' := newH quan ++ [(0, some (.cells [.int .i64 quan, .nils, .nils, .bool false, .nils] ⟨false, some 48⟩)), (0, some (.cells [] ⟨false, none⟩))]) 1 ⟨false, none⟩ rfl rfl rfl (by decide) ⟨_, _, .inl rfl⟩ ?_
    refine S_ghost (id := 2) (gid := 4) (gver := 0) (j := 2) (σ' := newH quan ++ [(0, some (.cells [.int .i64 quan, .ms 3 0 0 0 1 false, .nils, .bool false, .nils] ⟨false, some 48⟩)), (0, some (.cells [] ⟨false, none⟩)), (0, some (.cells [] ⟨false, none⟩))]) 1 ⟨false, none⟩ rfl rfl rfl (by decide) ⟨_, _, .inl rfl⟩ ?_
    refine S_ghost (id := 2) (gid := 5) (gver := 0) (j := 4) (σ' := newH quan ++ [(0, some (.cells [.int .i64 quan, .ms 3 0 0 0 1 false, .ms 4 0 0 0 1 false, .bool false, .nils] ⟨false, some 48⟩)), (0, some (.cells [] ⟨false, none⟩)), (0, some (.cells [] ⟨false, none⟩)), (0, some (.cells [] ⟨false, none⟩))]) 3 ⟨false, none⟩ rfl rfl rfl (by decide) ⟨_, _, .inl rfl⟩ ?_
    refine S_heap (newH quan ++ [(0, some (rsB quan ⟨2, 3, 4, 5, 0, 0, 0⟩ ⟨[], [], false, []⟩)), (0, some (.cells [] ⟨false, none⟩)), (0, some (.cells [] ⟨false, none⟩)), (0, some (.cells [] ⟨false, none⟩))]) rfl ?_
    have h0 : Both (newH quan ++ [(0, some (rsB quan ⟨2, 3, 4, 5, 0, 0, 0⟩ ⟨[], [], false, []⟩)), (0, some (.cells [] ⟨false, none⟩)), (0, some (.cells [] ⟨false, none⟩)), (0, some (.cells [] ⟨false, none⟩))]) 0 [] quan [] ⟨2, 3, 4, 5, 0, 0, 0⟩ ⟨[], [], false, []⟩ := by
      have hτ : Alive [((0, some (rsB quan ⟨2, 3, 4, 5, 0, 0, 0⟩ ⟨[], [], false, []⟩)) : Nat × Option Box), (0, some (.cells [] ⟨false, none⟩)), (0, some (.cells [] ⟨false, none⟩)), (0, some (.cells [] ⟨false, none⟩))] := fun e he => by
        simp only [List.mem_cons, List.not_mem_nil, or_false] at he
        rcases he with rfl | rfl | rfl | rfl <;> exact ⟨_, rfl⟩
      refine ⟨(newH_at quan).apps hτ, ⟨alive_apps (newH_at quan).al hτ, rfl, rfl, rfl, rfl, by decide, by decide, by decide, by decide, by decide, by decide⟩, rfl, ⟨rfl, rfl, rfl, .nil, (fun t ht => by cases ht), (fun j hj => by cases hj), .nil, rfl⟩, ok0 hqq, fun id ho hr => ?_⟩
      rcases ho with rfl | rfl | ⟨e, he, _⟩
      · rcases hr with h' | h' | h' | h' <;> cases h'
      · rcases hr with h' | h' | h' | h' <;> cases h'
      · cases he
    refine S_while (α := (Heap × Nat × List QL × List QT × RL × RS) × Nat) (fun u => [(1, .sl true false 4 (mvsA l)), (5, .ptr 0 0 0), (7, .ptr 2 0 0), (8, .int .i64 (u.2 : Nat))]) (fun u => u.1.1)
      (fun u => Both u.1.1 u.1.2.1 u.1.2.2.1 quan u.1.2.2.2.1 u.1.2.2.2.2.1 u.1.2.2.2.2.2 ∧ u.2 ≤ l.length) (fun u => l.length - u.2) ((_, 0, [], [], ⟨2, 3, 4, 5, 0, 0, 0⟩, ⟨[], [], false, []⟩), 0)
      ⟨h0, Nat.zero_le _⟩ (.cons rfl (.cons rfl (.cons rfl (.cons rfl (.nil _))))) rfl ?_
    rintro ⟨⟨σ, rv, es, ring, L, s⟩, i⟩ ⟨h, hi⟩
    simp only at h hi
    by_cases hlt : i < l.length ∧ i < 300
    · obtain ⟨hlt1, hlt2⟩ := hlt
      have d1 : decide ((i : Int) < (((mvsA l).length : Nat) : Int)) = true := decide_eq_true (by omega)
      have d2 : decide ((i : Int) < 300) = true := decide_eq_true (by omega)
      have hi1 : AV.int .i64 (IntKind.i64.wrap ((i : Int) + 1)) = .int .i64 ((i + 1 : Nat) : Int) := ai64 rfl (by omega)
      obtain ⟨m, hm⟩ : ∃ m, m = l[i] := ⟨_, rfl⟩
      have hmm : m ∈ l := by rw [hm]; exact List.getElem_mem hlt1
      have hmx : (mvsA l)[(i : Int).toNat]? = some (mvA m) := by rw [Int.toNat_natCast, hm]; simp [mvsA, hlt1]
      obtain ⟨j, hj⟩ : ∃ j, j = m.job := ⟨_, rfl⟩
      have hnj : j.name.length ≤ 1048576 := by rw [hj]; exact hnl m hmm
      have hch := choose_ok m.kind 4 (hmw m hmm).1 (by decide) (by decide)
      have hc4 := chooseN_lt m.kind (n := 4) (by decide)
      obtain ⟨c, hc⟩ : ∃ c, c = chooseN m.kind 4 := ⟨_, rfl⟩
      rw [← hc] at hch hc4
      obtain ⟨z0, hz0⟩ : ∃ z0 : Nat × Option Box, z0 = (0, some (.cells [.int .i64 0, .str [], .int .i64 0] ⟨false, some 34⟩)) := ⟨_, rfl⟩
      obtain ⟨zj, hzj⟩ : ∃ zj : Nat × Option Box, zj = (0, some (.cells j.cells ⟨false, some 34⟩)) := ⟨_, rfl⟩
      have h1 : Both (σ ++ [zj]) rv es quan ring L s := by rw [hzj]; exact h.app _ _
      obtain ⟨o1, o2⟩ := h.other (Nat.le_refl σ.length)
      have hlj : (σ ++ [zj])[σ.length]? = some zj := app_last
      have hal : ∀ {t : Heap} {fr : Fr} {o : Oper}, Alive t → o.op = .alloc 34 → OpSpec cx 115 fr t o (.ptr t.length 0 0) (t ++ [z0]) := fun hs ho => by rw [hz0]; exact OpSpec.allocE ho rfl rfl rfl hs
      have hst : ∀ {t : Heap} {fr : Fr} {o : Oper} {a x : Operand} (j : QJ), o.op = .store 34 a x → ev cx fr a = .ptr t.length 0 0 → ev cx fr x = jobA j → OpSpec cx 115 fr (t ++ [z0]) o (.tup []) (t ++ [(0, some (.cells j.cells ⟨false, some 34⟩))]) := fun {t} {fr} {o} {a} {x} j ho ha hx =>
        OpSpec.storeP (id := t.length) (gT := some 34) (cs := [.int .i64 0, .str [], .int .i64 0]) (y := jobA j) ho rfl ha hx rfl rfl (by rw [app_last, hz0]) (lble rfl) (by rw [List.set_append_right _ _ (Nat.le_refl _), Nat.sub_self]; rfl)
      have hcs : c = 0 ∨ c = 1 ∨ c = 2 ∨ c = 3 := by omega
      rcases hcs with hc0 | hc0 | hc0 | hc0
      · rw [hc0] at hch
        refine pao [.b true, .b true, .v (mvA m), .v (jobA j), .f (.ptr σ.length 0 0) (fun t => t ++ [z0]), .f (.tup []) (fun _ => σ ++ [zj]), .v (mvA m), .v (.int .i64 m.kind), .v (.int .i64 0), .b true] rfl ?_ ?_
        · (repeat' with_reducible apply AllP_cons) <;> try exact aC
          · exact OpSpec.loadRA rfl rfl rfl rfl (lble rfl) (by rw [hj]; rfl)
          · exact hal h.q.al rfl
          · rw [hzj]; exact hst j rfl rfl rfl
          · exact OpSpec.loadR rfl rfl rfl rfl rfl
          · exact ⟨_, hch, .cons (.refl .int) (.cons (.refl .int) (.nil _))⟩
        have hP := Put_ok (σ ++ [zj]) 0 1 rv es quan ring j h1.q h1.ok.mn h1.ok.len hnj
        refine S_drawRR 2 5 6 (fun v1 v2 => [jobA j, v1, jobA j, v2])
          (fun v t => v = .int .i64 (putE ring j : Nat) ∧ ∃ rv' es', QAt t 0 1 rv' es' quan (if putE ring j = 0 then addJ ring j else ring) ∧ QKeep (σ ++ [zj]) t (Own 0 1 es) (Own 0 1 es'))
          (fun _ σ1 v t => v = .int .i64 (putE ring j : Nat) ∧ ∃ L', RAt t L' quan (if putE ring j = 0 then rPut s j else s) ∧ L'.r = L.r ∧ QKeep σ1 t (OwnR L) (OwnR L'))
          (fun t => t[σ.length]? = some zj) rfl rfl rfl rfl rfl rfl rfl (fun t v1 v2 => rfl) (fun u v1 v2 => rfl) (fun u v1 v2 => rfl) hlj ?_ ?_ (fun t v1 v2 ht => ?_) (fun o ho => ?_) (fun v1 σ1 hr1 o ho => ?_) (fun v1 σ1 v2 σ2 hr1 hr2 => ?_)
        · rintro v1 σ1 ⟨_, rv', es', _, hk⟩
          rw [hk.same _ (by simp) o1]; exact hlj
        · rintro v1 σ1 v2 σ2 ⟨_, rv', es', _, hk⟩ ⟨_, L', _, _, hk2⟩
          rw [hk2.same _ (by have := hk.len; simp at this; omega) o2, hk.same _ (by simp) o1]; exact hlj
        · (repeat' with_reducible apply AllP_cons) <;> try exact aC
          all_goals exact OpSpec.loadPA rfl rfl rfl rfl (ht.trans (by rw [hzj])) (lble rfl) rfl
        · cases ho
          exact callR_step rfl rfl hP fun out t ⟨e1, e2⟩ => ⟨_, e1, rfl, e2⟩
        · obtain ⟨_, rv', es', hq1, hk1⟩ := hr1
          obtain ⟨hra, hdj⟩ := h1.toQ hq1 hk1
          have hRP := rPut_ok σ1 L quan s j ring hra h1.sim h1.ok hnj
          rw [show AV.ptr L.r 0 0 = AV.ptr 2 0 0 by rw [h.lr]] at hRP
          cases ho
          exact callR_step rfl rfl hRP fun out t ⟨e1, e2⟩ => ⟨_, e1, rfl, e2⟩
        · obtain ⟨rfl, rv', es', hq1, hk1⟩ := hr1
          obtain ⟨rfl, L', hra2, hlr2, hk2⟩ := hr2
          obtain ⟨hra, hdj⟩ := h1.toQ hq1 hk1
          obtain ⟨hq2, hdj2⟩ := toR hq1 hdj hra2 hk2
          refine pao [.b false] rfl ?_ ?_
          · (repeat' with_reducible apply AllP_cons) <;> try exact aC
            show (((putE ring j : Nat) : Int) != ((putE ring j : Nat) : Int)) = false
            simp
          by_cases hp0 : putE ring j = 0
          · rw [if_pos hp0] at hq2 hra2
            exact S_round ((σ2, rv', es', addJ ring j, L', rPut s j), i + 1) (by show l.length - (i + 1) < l.length - i; omega) ⟨⟨hq2, hra2, hlr2.trans h.lr, h1.sim.put h1.ok hp0, h1.ok.add hp0, hdj2⟩, hlt1⟩ (.cons rfl (.cons rfl (.cons rfl (.cons hi1 (.nil _))))) rfl
          · rw [if_neg hp0] at hq2 hra2
            exact S_round ((σ2, rv', es', ring, L', s), i + 1) (by show l.length - (i + 1) < l.length - i; omega) ⟨⟨hq2, hra2, hlr2.trans h.lr, h1.sim, h1.ok, hdj2⟩, hlt1⟩ (.cons rfl (.cons rfl (.cons rfl (.cons hi1 (.nil _))))) rfl
      · rw [hc0] at hch
        refine pao [.b true, .b true, .v (mvA m), .v (jobA j), .f (.ptr σ.length 0 0) (fun t => t ++ [z0]), .f (.tup []) (fun _ => σ ++ [zj]), .v (mvA m), .v (.int .i64 m.kind), .v (.int .i64 1), .b false, .b true] rfl ?_ ?_
        · (repeat' with_reducible apply AllP_cons) <;> try exact aC
          · exact OpSpec.loadRA rfl rfl rfl rfl (lble rfl) (by rw [hj]; rfl)
          · exact hal h.q.al rfl
          · rw [hzj]; exact hst j rfl rfl rfl
          · exact OpSpec.loadR rfl rfl rfl rfl rfl
          · exact ⟨_, hch, .cons (.refl .int) (.cons (.refl .int) (.nil _))⟩
        have hX := Next_ok (σ ++ [zj]) 0 1 rv es quan ring h1.q h1.ok
        obtain ⟨a, ok, hn⟩ : ∃ a ok, nxA (nxtQ quan ring) = .tup [jobA a, .bool ok] := by
          unfold nxA
          cases (nxtQ quan ring).1 with
          | some j => exact ⟨_, _, rfl⟩
          | none => exact ⟨_, _, rfl⟩
        rw [hn] at hX
        obtain ⟨za, hza⟩ : ∃ za : Nat × Option Box, za = (0, some (.cells a.cells ⟨false, some 34⟩)) := ⟨_, rfl⟩
        refine S_call rfl rfl rfl hX (fun v' σ' hv => ?_) (fun v' σ' hv => ?_)
        case _ =>
          obtain ⟨e1, rv', es', hq1, hk1⟩ := hv
          cases e1
          obtain ⟨hra, hdj⟩ := h1.toQ hq1 hk1
          have hq1a : QAt (σ' ++ [za]) 0 1 rv' es' quan (nxtQ quan ring).2 := by rw [hza]; exact hq1.app _ _
          have hraa : RAt (σ' ++ [za]) L quan s := by rw [hza]; exact hra.app _ _
          have hRN := rNext_ok (σ' ++ [za]) L quan s ring hraa h1.sim h1.ok
          rw [show AV.ptr L.r 0 0 = AV.ptr 2 0 0 by rw [h.lr], hn] at hRN
          refine pao [.f (.ptr σ'.length 0 0) (fun t => t ++ [z0]), .f (.tup []) (fun _ => σ' ++ [za])] rfl ?_ ?_
          · (repeat' with_reducible apply AllP_cons) <;> try exact aC
            · exact hal hq1.al rfl
            · rw [hza]; exact hst a rfl rfl rfl
          refine S_call rfl rfl rfl hRN (fun v' σ2 hv => ?_) (fun v' σ2 hv => ?_)
          case _ =>
            obtain ⟨e1, L', s', hra2, hsim2, hlr2, hk2⟩ := hv
            cases e1
            obtain ⟨hq2, hdj2⟩ := toR hq1a hdj hra2 hk2
            have hnoa : ¬ OwnR L σ'.length := fun ho => by have := hra.lt _ ho; omega
            have hla : σ2[σ'.length]? = some za := by rw [hk2.same _ (by simp) hnoa]; exact app_last
            have hok' : QOk quan (nxtQ quan ring).2 := by
              rcases nxt_spec (quan := quan) (mQ ring + 1) ring h1.ok (Nat.lt_succ_self _) with ⟨hr, hn'⟩ | ⟨j', r', hn', _, hok'⟩
              · rw [show nxtQ quan ring = _ from hn']; exact ok0 hqq
              · rw [show nxtQ quan ring = _ from hn']; exact hok'
            refine pao [.f (.ptr σ2.length 0 0) (fun t => t ++ [z0]), .f (.tup []) (fun _ => σ2 ++ [za]), .v (jobA a), .v (jobA a), .b false, .b false] rfl ?_ ?_
            · (repeat' with_reducible apply AllP_cons) <;> try exact aC
              · exact hal hra2.al rfl
              · rw [hza]; exact hst a rfl rfl rfl
              · exact OpSpec.loadPA rfl rfl rfl rfl ((app_get hla).trans (by rw [hza])) (lble rfl) rfl
              · exact OpSpec.loadPA rfl rfl rfl rfl (by rw [app_last, hza]) (lble rfl) rfl
              · kernel_rfl
              · show (!(a.ten == a.ten && (a.name == a.name && (a.cost == a.cost && true)))) = false
                simp
              · show (ok != ok) = false
                simp
            refine S_round ((σ2 ++ [za], rv', es', (nxtQ quan ring).2, L', s'), i + 1) (by show l.length - (i + 1) < l.length - i; omega) ⟨?_, hlt1⟩ (.cons rfl (.cons rfl (.cons rfl (.cons hi1 (.nil _))))) rfl
            rw [hza]
            exact (Both.mk hq2 hra2 (hlr2.trans h.lr) hsim2 hok' hdj2).app _ _
          case _ =>
            obtain ⟨e1, _⟩ := hv
            cases e1
        case _ =>
          obtain ⟨e1, _⟩ := hv
          cases e1
      · rw [hc0] at hch
        refine pao [.b true, .b true, .v (mvA m), .v (jobA j), .f (.ptr σ.length 0 0) (fun t => t ++ [z0]), .f (.tup []) (fun _ => σ ++ [zj]), .v (mvA m), .v (.int .i64 m.kind), .v (.int .i64 2), .b false, .b false, .b true] rfl ?_ ?_
        · (repeat' with_reducible apply AllP_cons) <;> try exact aC
          · exact OpSpec.loadRA rfl rfl rfl rfl (lble rfl) (by rw [hj]; rfl)
          · exact hal h.q.al rfl
          · rw [hzj]; exact hst j rfl rfl rfl
          · exact OpSpec.loadR rfl rfl rfl rfl rfl
          · exact ⟨_, hch, .cons (.refl .int) (.cons (.refl .int) (.nil _))⟩
        have hP := Drop_ok (σ ++ [zj]) 0 1 rv es quan ring j.name h1.q h1.ok
        refine S_drawRR 3 7 8 (fun v1 v2 => [.str j.name, v1, .str j.name, v2])
          (fun v t => v = .bool (fndQ ring j.name).isSome ∧ ∃ es', QAt t 0 1 rv es' quan (drpR ring j.name) ∧ QKeep (σ ++ [zj]) t (Own 0 1 es) (Own 0 1 es'))
          (fun _ σ1 v t => v = .bool (fndQ ring j.name).isSome ∧ ∃ L' s', RAt t L' quan s' ∧ Sim (drpR ring j.name) s' ∧ L'.r = L.r ∧ QKeep σ1 t (OwnR L) (OwnR L'))
          (fun t => t[σ.length]? = some zj) rfl rfl rfl rfl rfl rfl rfl (fun t v1 v2 => rfl) (fun u v1 v2 => rfl) (fun u v1 v2 => rfl) hlj ?_ ?_ (fun t v1 v2 ht => ?_) (fun o ho => ?_) (fun v1 σ1 hr1 o ho => ?_) (fun v1 σ1 v2 σ2 hr1 hr2 => ?_)
        · rintro v1 σ1 ⟨_, es', _, hk⟩
          rw [hk.same _ (by simp) o1]; exact hlj
        · rintro v1 σ1 v2 σ2 ⟨_, es', _, hk⟩ ⟨_, L', s', _, _, _, hk2⟩
          rw [hk2.same _ (by have := hk.len; simp at this; omega) o2, hk.same _ (by simp) o1]; exact hlj
        · (repeat' with_reducible apply AllP_cons) <;> try exact aC
          all_goals exact OpSpec.loadP rfl rfl rfl rfl (ht.trans (by rw [hzj])) rfl
        · cases ho
          exact callR_step rfl rfl hP fun out t ⟨e1, e2⟩ => ⟨_, e1, rfl, e2⟩
        · obtain ⟨_, es', hq1, hk1⟩ := hr1
          obtain ⟨hra, hdj⟩ := h1.toQ hq1 hk1
          have hRP := rDrop_ok σ1 L quan s j.name ring hra h1.sim h1.ok
          rw [show AV.ptr L.r 0 0 = AV.ptr 2 0 0 by rw [h.lr]] at hRP
          cases ho
          exact callR_step rfl rfl hRP fun out t ⟨e1, e2⟩ => ⟨_, e1, rfl, e2⟩
        · obtain ⟨rfl, es', hq1, hk1⟩ := hr1
          obtain ⟨rfl, L', s', hra2, hsim2, hlr2, hk2⟩ := hr2
          obtain ⟨hra, hdj⟩ := h1.toQ hq1 hk1
          obtain ⟨hq2, hdj2⟩ := toR hq1 hdj hra2 hk2
          refine pao [.b false] rfl ?_ ?_
          · (repeat' with_reducible apply AllP_cons) <;> try exact aC
            show ((fndQ ring j.name).isSome != (fndQ ring j.name).isSome) = false
            simp
          exact S_round ((σ2, rv, es', drpR ring j.name, L', s'), i + 1) (by show l.length - (i + 1) < l.length - i; omega) ⟨⟨hq2, hra2, hlr2.trans h.lr, hsim2, h1.ok.drop j.name, hdj2⟩, hlt1⟩ (.cons rfl (.cons rfl (.cons rfl (.cons hi1 (.nil _))))) rfl
      · rw [hc0] at hch
        refine pao [.b true, .b true, .v (mvA m), .v (jobA j), .f (.ptr σ.length 0 0) (fun t => t ++ [z0]), .f (.tup []) (fun _ => σ ++ [zj]), .v (mvA m), .v (.int .i64 m.kind), .v (.int .i64 3), .b false, .b false, .b false, .b true] rfl ?_ ?_
        · (repeat' with_reducible apply AllP_cons) <;> try exact aC
          · exact OpSpec.loadRA rfl rfl rfl rfl (lble rfl) (by rw [hj]; rfl)
          · exact hal h.q.al rfl
          · rw [hzj]; exact hst j rfl rfl rfl
          · exact OpSpec.loadR rfl rfl rfl rfl rfl
          · exact ⟨_, hch, .cons (.refl .int) (.cons (.refl .int) (.nil _))⟩
        have hP := Waiting_ok (σ ++ [zj]) 0 1 rv es quan ring j.ten h1.q h1.ok
        obtain ⟨q1, q2, q3⟩ := h1.sim.len h1.ok
        have hwt := h1.sim.wait h1.ok j.ten
        obtain ⟨wt, hwtd⟩ : ∃ wt, wt = wtQ ring j.ten := ⟨_, rfl⟩
        rw [← hwtd] at hP hwt
        have hwl : wt.length ≤ 200 := by
          rw [← hwt, List.length_map]
          have := List.length_filter_le (fun x : QJ => x.ten == j.ten) s.jobs
          omega
        have hST := SameTexts_ok (st := false) (st' := false) (fl := false) (fl' := false) wt wt (by omega) (by omega)
        rw [show (wt == wt) = true by simp] at hST
        refine S_drawRR 3 7 8 (fun v1 v2 => [.int .i64 j.ten, v1, .int .i64 j.ten, v2])
          (fun v t => ∃ w wv, v = .ms w wv 0 wt.length 1 false ∧ (σ ++ [zj]).length ≤ w ∧ t[w]? = some (wv, some (.cells (texts wt) ⟨false, none⟩)) ∧ QAt t 0 1 rv es quan ring ∧ QKeep (σ ++ [zj]) t (Own 0 1 es) (Own 0 1 es))
          (fun _ σ1 v t => ∃ w wv, v = .ms w wv 0 wt.length 1 false ∧ t[w]? = some (wv, some (.cells (texts wt) ⟨false, none⟩)) ∧ RAt t L quan s ∧ QKeep σ1 t (OwnR L) (OwnR L))
          (fun t => t[σ.length]? = some zj) rfl rfl rfl rfl rfl rfl rfl (fun t v1 v2 => rfl) (fun u v1 v2 => rfl) (fun u v1 v2 => rfl) hlj ?_ ?_ (fun t v1 v2 ht => ?_) (fun o ho => ?_) (fun v1 σ1 hr1 o ho => ?_) (fun v1 σ1 v2 σ2 hr1 hr2 => ?_)
        · rintro v1 σ1 ⟨_, _, _, _, _, _, hk⟩
          rw [hk.same _ (by simp) o1]; exact hlj
        · rintro v1 σ1 v2 σ2 ⟨_, _, _, _, _, _, hk⟩ ⟨_, _, _, _, _, hk2⟩
          rw [hk2.same _ (by have := hk.len; simp at this; omega) o2, hk.same _ (by simp) o1]; exact hlj
        · (repeat' with_reducible apply AllP_cons) <;> try exact aC
          all_goals exact OpSpec.loadP rfl rfl rfl rfl (ht.trans (by rw [hzj])) rfl
        · cases ho
          exact callR_step rfl rfl hP fun out t ⟨w, wv, e1, e2⟩ => ⟨_, e1, w, wv, rfl, e2⟩
        · obtain ⟨w, wv, _, _, _, hq1, hk1⟩ := hr1
          obtain ⟨hra, hdj⟩ := h1.toQ hq1 hk1
          have hRP := rWaiting_ok σ1 L quan s j.ten hra (by omega)
          rw [show AV.ptr L.r 0 0 = AV.ptr 2 0 0 by rw [h.lr], hwt] at hRP
          cases ho
          exact callR_step rfl rfl hRP fun out t ⟨w, wv, e1, e2, e3⟩ => ⟨_, e1, w, wv, rfl, e3⟩
        · obtain ⟨w, wv, rfl, hwl1, hwb, hq1, hk1⟩ := hr1
          obtain ⟨w2, wv2, rfl, hwb2, hra2, hk2⟩ := hr2
          obtain ⟨hra, hdj⟩ := h1.toQ hq1 hk1
          obtain ⟨hq2, hdj2⟩ := toR hq1 hdj hra2 hk2
          have hnw : ¬ OwnR L w := fun ho => by have := h1.r.lt _ ho; omega
          have hwb' : σ2[w]? = some (wv, some (.cells (texts wt) ⟨false, none⟩)) := by rw [hk2.same _ (lt_of_get hwb) hnw]; exact hwb
          refine pao [.v (.bool true), .b false] rfl ?_ ?_
          · (repeat' with_reducible apply AllP_cons) <;> try exact aC
            · exact ⟨_, hST, .cons (Frz.ms1 (ro := ⟨false, none⟩) (by simp [boxAt, hwb']) (texts_one _) (texts_len _) (texts_any _)) (.cons (Frz.ms1 (ro := ⟨false, none⟩) (by simp [boxAt, hwb2]) (texts_one _) (texts_len _) (texts_any _)) (.nil _))⟩
          exact S_round ((σ2, rv, es, ring, L, s), i + 1) (by show l.length - (i + 1) < l.length - i; omega) ⟨⟨hq2, hra2, h.lr, h1.sim, h1.ok, hdj2⟩, hlt1⟩ (.cons rfl (.cons rfl (.cons rfl (.cons hi1 (.nil _))))) rfl
    · have d1 : decide ((i : Int) < (((mvsA l).length : Nat) : Int)) = decide (i < l.length) := decide_eq_decide.2 (by omega)
      have d2 : decide ((i : Int) < 300) = decide (i < 300) := decide_eq_decide.2 (by omega)
      by_cases hlt1 : i < l.length
      · have d1' : decide ((i : Int) < (((mvsA l).length : Nat) : Int)) = true := by rw [d1]; exact decide_eq_true hlt1
        have d2' : decide ((i : Int) < 300) = false := by rw [d2]; exact decide_eq_false (fun h' => hlt ⟨hlt1, h'⟩)
        refine pao [.b true, .b false] rfl ?_ ?_
        · (repeat' with_reducible apply AllP_cons) <;> try exact aC
        exact S_retc .bool rfl trivial rfl
      · have d1' : decide ((i : Int) < (((mvsA l).length : Nat) : Int)) = false := by rw [d1]; exact decide_eq_false hlt1
        refine pao [.b false, .b false] rfl ?_ ?_
        · (repeat' with_reducible apply AllP_cons) <;> try exact aC
        exact S_retc .bool rfl trivial rfl
end Go.Proofs.Ytjaflkgfipaajaa
end
