/-
  Texts of our own, in one file.
-/
import Derived.Test.YtgmakmfdjhgjlaaGreatDoorGrpC
import Derived.WideShapes
import Derived.Shelf.Spec.SlicesGrow
import Derived.Shelf.SlSortCmp.WholeK
import Derived.WalkKit
import Derived.Lib.Walk
import Derived.Shelf.Strconv.Itoa3
import Derived.Shelf.LaysM
section
set_option linter.unusedVariables false
set_option linter.unusedSimpArgs false
namespace Go.Ab
open Go Go.WideShapes
inductive RdD (P : Program) {H : Type} : TypeId → DataW H → AV → Prop
  | bool {t b} (ht : P.underlying t = some .bool) : RdD P t (.lit (.bool b)) (.bool b)
  | int {t k n} (ht : P.underlying t = some (.int k)) (hw : (Lit.int k n).wf = true) : RdD P t (.lit (.int k n)) (.int k n)
  | str {t s} (ht : P.underlying t = some .string) (hs : s.length ≤ maxLen) : RdD P t (.lit (.string s)) (.str s)
  | nils {t e} (ht : P.underlying t = some (.slice e)) : RdD P t .nil (.sl true false (P.cellsOf e) [])
  | sl {t e} {ds rest : List (DataW H)} {xs : List AV} (ht : P.underlying t = some (.slice e)) (hl : xs.length = ds.length) (hm : xs.length ≤ maxLen) (h : ∀ i (h1 : i < ds.length) (h2 : i < xs.length), RdD P e ds[i] xs[i]) : RdD P t (.slice ds rest) (.sl true false (P.cellsOf e) xs)
  | st {t} {fs : Array Field} {ds : List (DataW H)} {xs : List AV} (ht : P.underlying t = some (.struct fs)) (hd : ds.length = fs.size) (hx : xs.length = fs.size) (h : ∀ i (h1 : i < ds.length) (h2 : i < xs.length) (h3 : i < fs.size), RdD P fs[i].type ds[i] xs[i]) : RdD P t (.agg ds) (.agg (xs.flatMap AV.cells))
def CellsV (w : World) (cs : List Value) (az : List AV) : Prop := cs.length = az.length ∧ ∀ i (h1 : i < cs.length) (h2 : i < az.length), VRel (Rl.old w) w cs[i] az[i]
theorem CellsV.one {w : World} {v : Value} {a : AV} (h : VRel (Rl.old w) w v a) : CellsV w [v] [a] := by
  refine ⟨rfl, fun i h1 h2 => ?_⟩
  obtain rfl : i = 0 := by simpa using h1
  exact h
def RdDAll (P : Program) {H : Type} : List Field → List (DataW H) → List AV → Prop
  | [], [], [] => True
  | f :: fs, d :: ds, x :: xs => RdD P f.type d x ∧ RdDAll P fs ds xs
  | _, _, _ => False
theorem RdDAll.of {P : Program} {H : Type} : ∀ {fs : List Field} {ds : List (DataW H)} {xs : List AV}, ds.length = fs.length → xs.length = fs.length → (∀ i (h1 : i < ds.length) (h2 : i < xs.length) (h3 : i < fs.length), RdD P fs[i].type ds[i] xs[i]) → RdDAll P fs ds xs
  | [], ds, xs, h1, h2, _ => by
    obtain rfl : ds = [] := List.eq_nil_of_length_eq_zero h1
    obtain rfl : xs = [] := List.eq_nil_of_length_eq_zero h2
    trivial
  | f :: fs, ds, xs, h1, h2, h => by
    cases ds with
    | nil => simp at h1
    | cons d ds =>
      cases xs with
      | nil => simp at h2
      | cons x xs =>
        exact ⟨h 0 (by simp) (by simp) (by simp), RdDAll.of (by simpa using h1) (by simpa using h2) (fun i k1 k2 k3 => h (i + 1) (Nat.succ_lt_succ k1) (Nat.succ_lt_succ k2) (Nat.succ_lt_succ k3))⟩
theorem RdDAll.cons {P : Program} {H : Type} {f : Field} {fs : List Field} {ds : List (DataW H)} {xs : List AV} (h : RdDAll P (f :: fs) ds xs) : ∃ d ds' x xs', ds = d :: ds' ∧ xs = x :: xs' ∧ RdD P f.type d x ∧ RdDAll P fs ds' xs' := by
  match ds, xs, h with
  | d :: ds', x :: xs', ⟨h1, h2⟩ => exact ⟨d, ds', x, xs', rfl, rfl, h1, h2⟩
theorem RdDAll.nil {P : Program} {H : Type} {ds : List (DataW H)} {xs : List AV} (h : RdDAll P [] ds xs) : ds = [] ∧ xs = [] := by
  match ds, xs, h with
  | [], [], _ => exact ⟨rfl, rfl⟩
section
variable {P : Program} {H : Type} {t : TypeId} {d : DataW H} {a : AV}
end
end Go.Ab
end
section
set_option linter.unusedVariables false
set_option linter.unusedSimpArgs false
set_option maxRecDepth 20000
namespace Go.Proofs.YtgmakmfdjhgjlaaGreatDoor
open Go Go.Ab Go.Shelf Go.RowKit Go.Lib Go.Sort
def lay_sortf_ren : Go.Shelf.Ren := ⟨fun | 6 => 64 | 15 => 90 | 14 => 89 | 28 => 113 | 29 => 114 | 20 => 105 | 21 => 106 | 22 => 107 | 23 => 108 | 24 => 109 | 25 => 110 | 26 => 111 | 27 => 112 | 46 => 130 | 47 => 131 | 48 => 132 | 49 => 133 | 50 => 134 | 57 => 153 | n => n, fun | 22 => 28 | 24 => 38 | 25 => 66 | 3 => 3 | 39 => 100 | 0 => 0 | 53 => 115 | 55 => 113 | 4 => 4 | 46 => 122 | 45 => 121 | 50 => 94 | 5 => 5 | 9 => 9 | 66 => 140 | 70 => 144 | 76 => 160 | 77 => 161 | n => n, fun | n => n⟩
theorem lay_sortf : Go.Proofs.SlLaysF0.n6 Tryz.prog lay_sortf_ren := {
  mixed := by kernel_rfl
  f6 := ⟨Tryz.f64.name, by decide, Tryz.func64.trans (congrArg some (by kernel_rfl))⟩
  f14 := ⟨Tryz.f89.name, by decide, Tryz.func89.trans (congrArg some (by kernel_rfl))⟩
  f15 := Tryz.func90.trans (congrArg some (by kernel_rfl))
  f20 := ⟨Tryz.f105.name, by decide, Tryz.func105.trans (congrArg some (by kernel_rfl))⟩
  f21 := ⟨Tryz.f106.name, by decide, Tryz.func106.trans (congrArg some (by kernel_rfl))⟩
  f22 := ⟨Tryz.f107.name, by decide, Tryz.func107.trans (congrArg some (by kernel_rfl))⟩
  f23 := ⟨Tryz.f108.name, by decide, Tryz.func108.trans (congrArg some (by kernel_rfl))⟩
  f24 := ⟨Tryz.f109.name, by decide, Tryz.func109.trans (congrArg some (by kernel_rfl))⟩
  f25 := ⟨Tryz.f110.name, by decide, Tryz.func110.trans (congrArg some (by kernel_rfl))⟩
  f26 := ⟨Tryz.f111.name, by decide, Tryz.func111.trans (congrArg some (by kernel_rfl))⟩
  f27 := ⟨Tryz.f112.name, by decide, Tryz.func112.trans (congrArg some (by kernel_rfl))⟩
  f28 := Tryz.func113.trans (congrArg some (by kernel_rfl))
  f29 := Tryz.func114.trans (congrArg some (by kernel_rfl))
  f46 := ⟨Tryz.f130.name, by decide, Tryz.func130.trans (congrArg some (by kernel_rfl))⟩
  f47 := Tryz.func131.trans (congrArg some (by kernel_rfl))
  f48 := Tryz.func132.trans (congrArg some (by kernel_rfl))
  f49 := ⟨Tryz.f133.name, by decide, Tryz.func133.trans (congrArg some (by kernel_rfl))⟩
  f50 := ⟨Tryz.f134.name, by decide, Tryz.func134.trans (congrArg some (by kernel_rfl))⟩
  f57 := ⟨Tryz.f153.name, by decide, Tryz.func153.trans (congrArg some (by kernel_rfl))⟩
  t0 := Tryz.underlying0
  a0 := Tryz.isAgg0
  z0 := Tryz.sizeOf0
  v0 := Tryz.zeroValue0
  t3 := Tryz.underlying3
  a3 := Tryz.isAgg3
  z3 := Tryz.sizeOf3
  v3 := Tryz.zeroValue3
  t4 := Tryz.underlying4
  a4 := Tryz.isAgg4
  z4 := Tryz.sizeOf4
  v4 := Tryz.zeroValue4
  t5 := Tryz.underlying5
  a5 := Tryz.isAgg5
  z5 := Tryz.sizeOf5
  v5 := Tryz.zeroValue5
  t9 := Tryz.underlying9
  a9 := Tryz.isAgg9
  z9 := Tryz.sizeOf9
  v9 := Tryz.zeroValue9
  t22 := Tryz.underlying28
  a22 := Tryz.isAgg28
  z22 := Tryz.sizeOf28
  v22 := Tryz.zeroValue28
  t25 := Tryz.underlying66
  a25 := Tryz.isAgg66
  z25 := Tryz.sizeOf66
  v25 := Tryz.zeroValue66
  t39 := Tryz.underlying100
  a39 := Tryz.isAgg100
  z39 := Tryz.sizeOf100
  v39 := Tryz.zeroValue100
  t45 := Tryz.underlying121
  a45 := Tryz.isAgg121
  z45 := Tryz.sizeOf121
  v45 := Tryz.zeroValue121
  t46 := Tryz.underlying122
  a46 := Tryz.isAgg122
  z46 := Tryz.sizeOf122
  v46 := Tryz.zeroValue122
  t50 := Tryz.underlying94
  a50 := Tryz.isAgg94
  z50 := Tryz.sizeOf94
  v50 := Tryz.zeroValue94
  t53 := Tryz.underlying115
  a53 := Tryz.isAgg115
  z53 := Tryz.sizeOf115
  v53 := Tryz.zeroValue115
  t55 := Tryz.underlying113
  a55 := Tryz.isAgg113
  z55 := Tryz.sizeOf113
  v55 := Tryz.zeroValue113
  t66 := Tryz.underlying140
  a66 := Tryz.isAgg140
  z66 := Tryz.sizeOf140
  v66 := Tryz.zeroValue140
  t70 := Tryz.underlying144
  a70 := Tryz.isAgg144
  z70 := Tryz.sizeOf144
  v70 := Tryz.zeroValue144
  t76 := Tryz.underlying160
  a76 := Tryz.isAgg160
  z76 := Tryz.sizeOf160
  v76 := Tryz.zeroValue160
  t77 := Tryz.underlying161
  a77 := Tryz.isAgg161
  z77 := Tryz.sizeOf161
  v77 := Tryz.zeroValue161 }
end Go.Proofs.YtgmakmfdjhgjlaaGreatDoor
end
section
set_option linter.unusedVariables false
set_option linter.unusedSimpArgs false
set_option maxRecDepth 20000
set_option maxHeartbeats 4000000
namespace Go.Proofs.YtgmakmfdjhgjlaaGreatDoor
open Go Go.Ab
theorem celsF_app (a b : List Fil) : celsF (a ++ b) = celsF a ++ celsF b := by
  unfold celsF fils; rw [List.map_append, List.flatMap_append]
theorem cels_at : ∀ {l : List Fil} {i : Nat} (h : i < l.length), ∃ r, (celsF l).drop (i * 3) = .str l[i].path :: .str l[i].text :: .bool l[i].run :: r
  | f :: l, 0, h => ⟨celsF l, rfl⟩
  | f :: l, i + 1, h => by
    obtain ⟨r, hr⟩ := cels_at (l := l) (i := i) (by simpa using h)
    refine ⟨r, ?_⟩
    have e : celsF (f :: l) = [.str f.path, .str f.text, .bool f.run] ++ celsF l := rfl
    have e2 : (i + 1) * 3 = ([.str f.path, .str f.text, .bool f.run] : List AV).length + i * 3 := by simp; omega
    rw [e, e2, List.drop_append, Nat.add_sub_cancel_left, hr, List.drop_eq_nil_of_le (by omega)]
    rfl
end Go.Proofs.YtgmakmfdjhgjlaaGreatDoor
end
section
set_option linter.unusedVariables false
set_option linter.unusedSimpArgs false
namespace Go.Ab
open Go
structure KeyLaw {α : Type} [DecidableEq α] (cx : Cx) (kt : TypeId) (key : α → AV) : Prop where
  check : ∀ (e : Bool) (r : Rl) (w : World) (v : Value) (a : α), VRel r w v (key a) → (Instr.checkKey e 10000 kt v).run cx.P w = .ok () w
  equal : ∀ (r : Rl) (w : World) (u v : Value) (a b : α), VRel r w u (key a) → VRel r w v (key b) → (Op.equal kt u v).run cx.P w = .ok (decide (a = b)) w
  bits : ∀ (r : Rl) (w : World) (u v : Value) (a : α), VRel r w u (key a) → VRel r w v (key a) → Instr.sameBits 10000 u v = true
  slow : ∃ d, cx.P.underlying kt = some d ∧ ∀ k e l i, Instr.findNow d k (e :: l) i = none
def fieldsFit (P : Program) : List Field → List AV → Bool
  | [], _ => true
  | f :: fs, xs => match aLoad P f.type (xs.drop f.offset) with
    | some y => keyFits P f.type y && fieldsFit P fs xs
    | none => false
theorem checkKey_one {P : Program} {w : World} {k : TypeId} {key : Value} {r : Rl} {a : AV} (e : Bool) (d : Nat) (h : keyFits P k a = true) (ha : VRel r w key a) : (Instr.checkKey e (d + 1) k key).run P w = .ok () w := by
  obtain ⟨q, hu, hd⟩ := keyFits_spec h
  unfold Instr.checkKey
  rcases hd with ⟨rfl, s, rfl⟩ | ⟨j, rfl, n, m, rfl⟩ | ⟨rfl, x, rfl⟩ <;> cases ha <;> simp [run_underlying hu]
theorem checkKey_struct {P : Program} {w : World} {k : TypeId} {v : Value} {r : Rl} {az : List AV} {fs : Array Field} (e : Bool) (hu : P.underlying k = some (.struct fs)) (hf : fieldsFit P fs.toList az = true) (ha : VRel r w v (.agg az)) : (Instr.checkKey e 10000 k v).run P w = .ok () w := by
  have hva : ∃ xs, v = .agg xs := by cases ha; exact ⟨_, rfl⟩
  obtain ⟨xs, rfl⟩ := hva
  show (Instr.checkKey e (9998 + 1 + 1) k (.agg xs)).run P w = _
  rw [Instr.checkKey]
  simp only [Sem.run_bind, run_underlying hu, Result.andThen_ok]
  rw [← Array.forIn_toList]
  generalize fs.toList = L at hf
  induction L with
  | nil => simp
  | cons f L ih =>
    rw [fieldsFit] at hf
    split at hf
    case h_2 => cases hf
    rename_i y hy
    rw [Bool.and_eq_true] at hf
    obtain ⟨z, p1, p2⟩ := part_run ha hy
    have p3 := checkKey_one e 9998 hf.1 p2
    by_cases hn : f.name = "_"
    · simp only [List.forIn_cons, Sem.run_bind, hn, ne_eq, not_true_eq_false, if_false, Result.andThen_ok, Sem.run_pure]
      exact ih hf.2
    · simp only [List.forIn_cons, Sem.run_bind, hn, ne_eq, not_false_eq_true, if_true, Result.andThen_ok, p1, p3, Sem.run_pure]
      exact ih hf.2
theorem equal_struct {P : Program} {w : World} {t : TypeId} {u v : Value} {r : Rl} {az bs : List AV} {fs : Array Field} {b : Bool} (ht : P.underlying t = some (.struct fs)) (hc : cmpOk P t = true) (hb : eqFs P fs.toList az bs = some b) (hx : VRel r w u (.agg az)) (hy : VRel r w v (.agg bs)) :
    (Op.equal t u v).run P w = .ok b w := by
  have hxa : ∃ xs, u = .agg xs := by cases hx; exact ⟨_, rfl⟩
  have hya : ∃ xs, v = .agg xs := by cases hy; exact ⟨_, rfl⟩
  obtain ⟨xs, rfl⟩ := hxa
  obtain ⟨ys, rfl⟩ := hya
  have hfo : P.fieldsOf t = fs := by simp [Program.fieldsOf, ht]
  unfold cmpOk at hc
  rw [ht] at hc
  simp only [Bool.and_eq_true, Bool.not_eq_true', List.all_eq_true, bne_iff_ne] at hc
  show (Op.equalIn (9998 + 1 + 1) t _ _).run P w = _
  rw [run_equalIn_struct w (9998 + 1) t xs ys (by rw [hfo]; exact ht) hc.1.1, hfo]
  exact eqFs_run 9998 hx hy fs.toList hb hc.2
def plainA : AV → Bool
  | .str _ => true
  | .int _ _ => true
  | .bool _ => true
  | _ => false
theorem bits_one {r : Rl} {w : World} {u v : Value} {a : AV} (d : Nat) (h : plainA a = true) (hu : VRel r w u a) (hv : VRel r w v a) : Instr.sameBits d u v = true := by
  cases a <;> first | cases h | skip
  · cases hu; cases hv; unfold Instr.sameBits; simp
  · cases hu; cases hv; unfold Instr.sameBits; simp
  · cases hu with
    | str h1 =>
      cases hv with
      | str h2 =>
        unfold Instr.sameBits
        exact (MapKept.bytes_beq _ _).2 (ByteArray.ext (Array.toList_inj.1 (h1.trans h2.symm)))
theorem bits_struct {r : Rl} {w : World} {u v : Value} {az : List AV} (h : az.all plainA = true) (hu : VRel r w u (.agg az)) (hv : VRel r w v (.agg az)) : Instr.sameBits 10000 u v = true := by
  cases hu with
  | agg hn h1 =>
    cases hv with
    | agg hm h2 =>
      rename_i xs ys
      unfold Instr.sameBits
      rw [Bool.and_eq_true]
      refine ⟨by simp [hn, hm], ?_⟩
      rw [List.all_eq_true]
      rintro ⟨x, y⟩ hxy
      obtain ⟨i, hi, e⟩ := List.getElem_of_mem hxy
      rw [List.length_zip, Array.length_toList, Array.length_toList] at hi
      rw [List.getElem_zip] at e
      have hia : i < az.length := by omega
      have k1 := h1 i hia
      have k2 := h2 i hia
      have e1 : xs.getD i undef = x := by
        rw [Array.getD_eq_getD_getElem?, Array.getElem?_eq_getElem (by omega)]
        exact (congrArg Prod.fst e)
      have e2 : ys.getD i undef = y := by
        rw [Array.getD_eq_getD_getElem?, Array.getElem?_eq_getElem (by omega)]
        exact (congrArg Prod.snd e)
      rw [e1] at k1; rw [e2] at k2
      exact bits_one _ (List.all_eq_true.1 h _ (List.getElem_mem hia)) k1 k2
theorem KeyLaw.struct {α : Type} [DecidableEq α] {cx : Cx} {kt : TypeId} {fs : Array Field} {parts : α → List AV} (hu : cx.P.underlying kt = some (.struct fs)) (hc : cmpOk cx.P kt = true) (hf : ∀ a, fieldsFit cx.P fs.toList (parts a) = true) (hp : ∀ a, (parts a).all plainA = true)
    (he : ∀ a b, eqFs cx.P fs.toList (parts a) (parts b) = some (decide (a = b))) : KeyLaw cx kt (fun a => .agg (parts a)) where
  check := fun e r w v a h => checkKey_struct e hu (hf a) h
  equal := fun r w u v a b h1 h2 => equal_struct hu hc (he a b) h1 h2
  bits := fun r w u v a h1 h2 => bits_struct (hp a) h1 h2
  slow := ⟨_, hu, fun k e l i => rfl⟩
section
variable {α : Type} [DecidableEq α]
def mapG (key : α → AV) (ks : List α) (val : α → AV) : List (AV × AV) := ks.map fun k => (key k, val k)
theorem KeyLaw.find {cx : Cx} {kt : TypeId} {key : α → AV} (L : KeyLaw cx kt key) {r : Rl} {w : World} {a : α} {k : Value} (hk : VRel r w k (key a)) : ∀ (es : List MapEntry) (ks : List α) (i : Nat), es.length = ks.length → (∀ j (h : j < ks.length), ∃ e, es[j]? = some e ∧ VRel r w e.key (key ks[j])) →
    (a ∉ ks ∧ (Instr.findAsking kt k es i).run cx.P w = .ok none w) ∨ (a ∈ ks ∧ ∃ e, es[ks.idxOf a]? = some e ∧ (Instr.findAsking kt k es i).run cx.P w = .ok (some (i + ks.idxOf a, e.val)) w)
  | [], [], i, _, _ => .inl ⟨by simp, by simp [Instr.findAsking]⟩
  | [], _ :: _, _, hl, _ => by simp at hl
  | _ :: _, [], _, hl, _ => by simp at hl
  | e :: es, x :: ks, i, hl, hr => by
    obtain ⟨e0, q1, q2⟩ := hr 0 (by simp)
    simp only [List.getElem?_cons_zero, Option.some.injEq, List.getElem_cons_zero] at q1 q2
    subst q1
    have heq := L.equal r w k e.key a x hk q2
    by_cases hax : a = x
    · subst hax
      refine .inr ⟨by simp, e, by simp, ?_⟩
      rw [decide_eq_true rfl] at heq
      rw [Instr.findAsking]
      simp only [Sem.run_bind, heq, Result.andThen_ok, if_true, Sem.run_pure, List.idxOf_cons_self, Nat.add_zero]
    · rw [decide_eq_false hax] at heq
      have hf : (Instr.findAsking kt k (e :: es) i).run cx.P w = (Instr.findAsking kt k es (i + 1)).run cx.P w := by
        conv => lhs; rw [Instr.findAsking]
        simp [heq]
      have hx : (x == a) = false := by simpa using Ne.symm hax
      rcases KeyLaw.find L hk es ks (i + 1) (by simpa using hl) (fun j hj => by
        obtain ⟨e', m1, m2⟩ := hr (j + 1) (by simp; omega)
        exact ⟨e', by simpa using m1, by simpa using m2⟩) with ⟨h1, h2⟩ | ⟨h1, e', h2, h3⟩
      · exact .inl ⟨by simp [hax, h1], by rw [hf]; exact h2⟩
      · refine .inr ⟨List.mem_cons_of_mem _ h1, e', ?_, ?_⟩
        · rw [List.idxOf_cons, hx]; simpa using h2
        · rw [hf, h3, List.idxOf_cons, hx]
          simp only [cond_false]
          rw [show i + 1 + ks.idxOf a = i + (ks.idxOf a + 1) by omega]
theorem KeyLaw.findKey {cx : Cx} {kt : TypeId} {key : α → AV} (L : KeyLaw cx kt key) {r : Rl} {w : World} {a : α} {k : Value} (hk : VRel r w k (key a)) {es : Array MapEntry} {clock : Nat} {ks : List α} {val : α → AV} {st : Option (List Nat × Nat)} (hm : MapIs r w es clock (mapG key ks val) st) :
    (a ∉ ks ∧ (Instr.findKey kt k es.toList).run cx.P w = .ok none w) ∨ (a ∈ ks ∧ ∃ e, es[ks.idxOf a]? = some e ∧ VRel r w e.val (val a) ∧ VRel r w e.key (key a) ∧ (Instr.findKey kt k es.toList).run cx.P w = .ok (some (ks.idxOf a, e.val)) w) := by
  have hlen : (mapG key ks val).length = ks.length := by simp [mapG]
  have hat : ∀ j (h : j < ks.length), ∃ e, es[j]? = some e ∧ VRel r w e.key (key ks[j]) ∧ VRel r w e.val (val ks[j]) := by
    intro j hj
    obtain ⟨e, h1, h2, h3⟩ := hm.2.1 j (by omega)
    refine ⟨e, h1, ?_, ?_⟩
    · simpa [mapG] using h2
    · simpa [mapG] using h3
  obtain ⟨d, hd, hs⟩ := L.slow
  have h := L.find hk es.toList ks 0 (by rw [Array.length_toList, hm.1, hlen]) (fun j hj => by
    obtain ⟨e, h1, h2, _⟩ := hat j hj
    exact ⟨e, by rw [Array.getElem?_toList]; exact h1, h2⟩)
  have hfk : (Instr.findKey kt k es.toList).run cx.P w = (Instr.findAsking kt k es.toList 0).run cx.P w := by
    unfold Instr.findKey
    cases hes : es.toList with
    | nil => simp [run_underlying hd, Instr.findNow, Instr.findAsking]
    | cons e l => simp [run_underlying hd, hs]
  rw [hfk]
  rcases h with h | ⟨h1, e, h2, h3⟩
  · exact .inl h
  · refine .inr ⟨h1, e, by rw [← Array.getElem?_toList]; exact h2, ?_, ?_, by rw [h3, Nat.zero_add]⟩
    · obtain ⟨e', m1, m2, m3⟩ := hat _ (List.idxOf_lt_length_of_mem h1)
      rw [Array.getElem?_toList, m1] at h2
      obtain rfl := Option.some.inj h2
      rw [List.getElem_idxOf] at m3; exact m3
    · obtain ⟨e', m1, m2, m3⟩ := hat _ (List.idxOf_lt_length_of_mem h1)
      rw [Array.getElem?_toList, m1] at h2
      obtain rfl := Option.some.inj h2
      rw [List.getElem_idxOf] at m2; exact m2
variable {cx : Cx} {n : Nat} {fr : Fr} {σ : Heap}
theorem OpSpec.entryG {o : Oper} {x : Operand} {id ver mid mver since c i b : Nat} {seen bs : List Nat} {kvs : List (AV × AV)} {p q : AV} (ho : o.op = .entry x) (hx0 : ev cx fr x = .ptr id ver 0) (hσ : σ[id]? = some (ver, some (.miter mid mver since (seen ++ [b]) c)))
    (hσm : σ[mid]? = some (mver, some (.map kvs (some (bs, c))))) (hb : bs[i]? = some b) (hk : kvs[i]? = some (p, q)) : OpSpec cx n fr σ o (.tup [p, q]) σ := by
  have hik : i < kvs.length := by
    rcases Nat.lt_or_ge i kvs.length with h | h
    · exact h
    · rw [List.getElem?_eq_none h] at hk; cases hk
  have h := OpSpec.entry (n := n) ho hx0 hσ hσm hb hik
  rw [List.getElem?_eq_getElem hik] at hk
  rw [Option.some.inj hk] at h
  exact h
end
end Go.Ab
end
section
set_option linter.unusedVariables false
set_option linter.unusedSimpArgs false
namespace Go.Ab
open Go
section
variable {cx : Cx} {n : Nat} {B : Bs} {k : List AI} {Q : Post} {fr : Fr} {σ : Heap}
inductive Wv : AV → AV → Prop
  | refl {a} : Wv a a
  | nils {st fl sz} : Wv .nils (.sl st fl sz [])
  | sl {st fl st' fl' sz xs} (h1 : st' = true → st = true) (h2 : fl' = true → fl = true) : Wv (.sl st fl sz xs) (.sl st' fl' sz xs)
theorem Wv.rel {r : Rl} {w : World} {v : Value} {a a' : AV} (h : Wv a a') (hv : VRel r w v a) : VRel r w v a' := by
  cases h with
  | refl => exact hv
  | nils => cases hv; exact .sl0 (fun _ => rfl)
  | sl h1 h2 =>
    cases hv with
    | sl0 hf => exact .sl0 (fun h => hf (h2 h))
    | sl hn hc0 hf hI hS hsz f hc hv => exact .sl hn hc0 (fun h => hf (h2 h)) hI (fun h => hS (h1 h)) hsz f hc hv
theorem Wv.one {a a' : AV} (h : Wv a a') (ho : a.one = true) : a'.one = true := by
  cases h with
  | refl => exact ho
  | nils => rfl
  | sl _ _ => rfl
inductive Wvs : List AV → List AV → Prop
  | nil : Wvs [] []
  | cons {a b az bs} (h : Wv a b) (hs : Wvs az bs) : Wvs (a :: az) (b :: bs)
theorem Wvs.len {az bs : List AV} (h : Wvs az bs) : az.length = bs.length := by
  induction h with
  | nil => rfl
  | cons _ _ ih => simp [ih]
theorem Wvs.get {az bs : List AV} (h : Wvs az bs) : ∀ (i : Nat) (h1 : i < az.length) (h2 : i < bs.length), Wv az[i] bs[i] := by
  induction h with
  | nil => intro i h1; simp at h1
  | cons h hs ih =>
    intro i h1 h2
    cases i with
    | zero => exact h
    | succ i => exact ih i (by simpa using h1) (by simpa using h2)
end
end Go.Ab
end
section
set_option linter.unusedVariables false
set_option linter.unusedSimpArgs false
set_option maxRecDepth 20000
set_option maxHeartbeats 4000000
namespace Go.Proofs.YtgmakmfdjhgjlaaGreatDoor
open Go Go.Ab Go.Shelf Go.RowKit Go.Lib Go.Sort
theorem isNaN_c (x : ByteArray) (W : World) : Calls Tryz.prog 66 #[.string x] W fun e w' => e = .returned (.bool false) ∧ w' = W := by
  go_enter Tryz.func66, Tryz.ntmps66
  go_wp2
  go_ret
  exact ⟨rfl, rfl⟩
def cmpT (a b : List UInt8) : Int := if a < b then -1 else if b < a then 1 else 0
theorem bt (x : ByteArray) : x.toList = x.data.toList := by
  exact ByteArray.toList_eq x
theorem gtr_run (P : Program) (w : World) (t : TypeId) (x y : ByteArray) : (binOp .gtr t (.string x) (.string y)).run P w = .ok (.bool (Op.bytesLess y.toList x.toList)) w := by
  simp only [binOp, Op.stringOp, Sem.run_pure, Result.ok.injEq, Value.bool.injEq, and_true]
  rw [bt, bt, bl_eq, bl_eq]
  congr 1
  rw [Bool.eq_iff_iff]
  simp only [Bool.not_eq_true', Bool.or_eq_false_iff, decide_eq_false_iff_not, beq_eq_false_iff_ne, decide_eq_true_eq]
  constructor
  · rintro ⟨h1, h2⟩
    rcases Std.lt_trichotomy x.data.toList y.data.toList with h | h | h
    · exact absurd h h1
    · exact absurd h h2
    · exact h
  · intro h
    exact ⟨List.lt_asymm h, fun e => by rw [e] at h; exact absurd h (List.lt_irrefl _)⟩
theorem compare_c (x y : ByteArray) (W : World) : Calls Tryz.prog 29 #[.string x, .string y] W fun e w' => e = .returned (.int .i64 (cmpT x.data.toList y.data.toList)) ∧ w' = W := by
  go_enter Tryz.func29, Tryz.ntmps29
  go_wp2_with (go_at_call 66; refine (isNaN_c _ _).mono ?_; rintro e w' ⟨rfl, rfl⟩)
  · go_ret
    have h1 : x.data.toList < y.data.toList := by
      have := ‹Op.bytesLess x.toList y.toList = true›
      rw [bl_eq] at this
      simpa [bt] using this
    unfold cmpT
    rw [if_pos h1]
    exact ⟨rfl, rfl⟩
  · rw [gtr_run]
    simp only [Result.andThen_ok]
    go_wp2
    · go_ret
      have h0 : ¬ x.data.toList < y.data.toList := by
        have := ‹Op.bytesLess x.toList y.toList = false›
        rw [bl_eq] at this
        simpa [bt] using this
      have h1 : y.data.toList < x.data.toList := by
        have := ‹Op.bytesLess y.toList x.toList = true›
        rw [bl_eq] at this
        simpa [bt] using this
      unfold cmpT
      rw [if_neg h0, if_pos h1]
      exact ⟨rfl, rfl⟩
    · go_ret
      have h0 : ¬ x.data.toList < y.data.toList := by
        have := ‹Op.bytesLess x.toList y.toList = false›
        rw [bl_eq] at this
        simpa [bt] using this
      have h1 : ¬ y.data.toList < x.data.toList := by
        have := ‹Op.bytesLess y.toList x.toList = false›
        rw [bl_eq] at this
        simpa [bt] using this
      unfold cmpT
      rw [if_neg h0, if_neg h1]
      exact ⟨rfl, rfl⟩
instance : Inhabited Fil := ⟨⟨[], [], false⟩⟩
def encF (f : Fil) : List Value := [.string ⟨f.path.toArray⟩, .string ⟨f.text.toArray⟩, .bool f.run]
def cmpF (f g : Fil) : Int := cmpT f.path g.path
theorem ltF (f g : Fil) : ltOf cmpF f g = decide (f.path < g.path) := by
  unfold ltOf cmpF cmpT
  by_cases h1 : f.path < g.path
  · simp [h1]
  · by_cases h2 : g.path < f.path <;> simp [h1, h2]
theorem swoF : SWO (ltOf cmpF) where
  irrefl x := by rw [ltF]; simp
  trans x y z h1 h2 := by
    rw [ltF] at *
    simp only [decide_eq_true_eq] at *
    exact List.lt_trans h1 h2
  ntrans x y z h1 h2 := by
    rw [ltF] at *
    simp only [decide_eq_false_iff_not] at *
    exact fun h => by
      rcases Std.lt_trichotomy y.path z.path with h3 | h3 | h3
      · exact h2 h3
      · rw [h3] at h1; exact h1 h
      · exact h1 (List.lt_trans h h3)
end Go.Proofs.YtgmakmfdjhgjlaaGreatDoor
end
section
set_option linter.unusedVariables false
set_option linter.unusedSimpArgs false
set_option maxRecDepth 20000
set_option maxHeartbeats 4000000
namespace Go.Proofs.YtgmakmfdjhgjlaaGreatDoor
open Go Go.Ab Go.Shelf Go.RowKit Go.Lib Go.Sort
def sortFl (o : List Fil) : List Fil := o.mergeSort fun f g => decide (f.path ≤ g.path)
theorem sortFl_perm (o : List Fil) : (sortFl o).Perm o := List.mergeSort_perm _ _
theorem sortFl_pw (o : List Fil) : (sortFl o).Pairwise fun f g => f.path ≤ g.path := by
  have := List.pairwise_mergeSort (le := fun f g : Fil => decide (f.path ≤ g.path)) (fun a b c h1 h2 => leT_trans _ _ _ h1 h2) (fun a b => leT_total _ _) o
  exact this.imp fun h => by simpa using h
theorem sortFl_uniq {o x : List Fil} (hnd : (o.map Fil.path).Nodup) (hp : x.Perm o) (hs : x.Pairwise fun f g => f.path ≤ g.path) : x = sortFl o := by
  have h1 : x.map Fil.path = (sortFl o).map Fil.path := perm_sorted ((hp.trans (sortFl_perm o).symm).map _) (List.pairwise_map.2 hs) (List.pairwise_map.2 (sortFl_pw o))
  have hinj : ∀ f ∈ o, ∀ g ∈ o, f.path = g.path → f = g := by
    intro f hf g hg h
    obtain ⟨i, hi, rfl⟩ := List.getElem_of_mem hf
    obtain ⟨j, hj, rfl⟩ := List.getElem_of_mem hg
    have : i = j := (List.getElem_inj (h₀ := by simpa using hi) (h₁ := by simpa using hj) hnd).1 (by simpa using h)
    subst this; rfl
  have hl : x.length = (sortFl o).length := by have := congrArg List.length h1; simpa using this
  refine List.ext_getElem hl fun i h2 h3 => ?_
  refine hinj _ (hp.mem_iff.1 (List.getElem_mem h2)) _ ((sortFl_perm o).mem_iff.1 (List.getElem_mem h3)) ?_
  have e : (x.map Fil.path)[i]? = ((sortFl o).map Fil.path)[i]? := by rw [h1]
  rw [List.getElem?_map, List.getElem?_map, List.getElem?_eq_getElem h2, List.getElem?_eq_getElem h3] at e
  exact Option.some.inj e
def celK (f : Fil) (k : Nat) : AV := match k with | 0 => .str f.path | 1 => .str f.text | _ => .bool f.run
theorem cel_get {l : List Fil} {i : Nat} (h : i < l.length * 3) : (celsF l)[i]? = some (celK (l[i / 3]'(by omega)) (i % 3)) := by
  have hq : i / 3 < l.length := by omega
  obtain ⟨r, hr⟩ := cels_at hq
  have e : i = i / 3 * 3 + i % 3 := by omega
  have h3 : i % 3 < 3 := Nat.mod_lt _ (by decide)
  conv => lhs; rw [e]
  rw [← List.getElem?_drop, hr]
  generalize i % 3 = k at h3
  match k, h3 with
  | 0, _ => rfl
  | 1, _ => rfl
  | 2, _ => rfl
theorem flat_get {l : List Fil} {i : Nat} (h : i < l.length * 3) : (flatK encF 3 l.toArray)[i]! = (encF (l[i / 3]'(by omega)))[i % 3]! := by
  rw [get_flatK encF 3 l.toArray i (by simpa using h)]
  have hq : i / 3 < l.toArray.size := by simp; omega
  rw [getElem!_pos l.toArray (i / 3) hq]
  simp
theorem enc_rel (r : Rl) (w : World) (f : Fil) (k : Nat) (h : k < 3) : VRel r w (encF f)[k]! (celK f k) := by
  match k, h with
  | 0, _ => exact .str (by simp)
  | 1, _ => exact .str (by simp)
  | 2, _ => exact .bool
theorem enc_eq {r : Rl} {w : World} {f : Fil} {k : Nat} {v : Value} (h : k < 3) (hv : VRel r w v (celK f k)) : v = (encF f)[k]! := by
  match k, h with
  | 0, _ =>
    have hv : VRel r w v (.str f.path) := hv
    cases hv with
    | str hs => show Value.string _ = .string _; rw [← hs]
  | 1, _ =>
    have hv : VRel r w v (.str f.text) := hv
    cases hv with
    | str hs => show Value.string _ = .string _; rw [← hs]
  | 2, _ =>
    have hv : VRel r w v (.bool f.run) := hv
    cases hv; rfl
end Go.Proofs.YtgmakmfdjhgjlaaGreatDoor
end
section
set_option linter.unusedVariables false
set_option linter.unusedSimpArgs false
set_option maxRecDepth 20000
set_option maxHeartbeats 4000000
namespace Go.Proofs.YtgmakmfdjhgjlaaGreatDoor
open Go Go.Ab
def ksP (l : List Fil) : List (List UInt8) := l.foldl (fun ks f => addU ks f.path) []
def lastF (l : List Fil) (p : List UInt8) : Fil := (l.reverse.find? (fun f => f.path == p)).getD ⟨[], [], false⟩
def vaP (l : List Fil) : List UInt8 → AV := fun p => filA (lastF l p)
def ovT (c : List Fil) : List Fil := (sortT (ksP c)).map (lastF c)
theorem ksP_mem {l : List Fil} {p : List UInt8} : p ∈ ksP l ↔ ∃ f ∈ l, f.path = p := by
  unfold ksP; rw [addU_fold_mem]; simp
theorem ksP_nodup (l : List Fil) : (ksP l).Nodup := addU_fold_nodup _ l [] .nil
theorem lastF_mem {l : List Fil} {p : List UInt8} (h : p ∈ ksP l) : lastF l p ∈ l ∧ (lastF l p).path = p := by
  unfold lastF
  cases hq : l.reverse.find? (fun f => f.path == p) with
  | none =>
    rw [List.find?_eq_none] at hq
    obtain ⟨f, hf, e⟩ := ksP_mem.1 h
    exact absurd (by simpa using e) (hq f (by simpa using hf))
  | some f => exact ⟨by simpa using List.mem_of_find?_eq_some hq, by simpa using List.find?_some hq⟩
end Go.Proofs.YtgmakmfdjhgjlaaGreatDoor
end
section
set_option linter.unusedVariables false
set_option linter.unusedSimpArgs false
set_option maxRecDepth 20000
set_option maxHeartbeats 4000000
namespace Go.Proofs.YtgmakmfdjhgjlaaGreatDoor
open Go Go.Ab
theorem Len0_ok : Calc cx 114 [.int .u64 0] (.int .i64 0) :=
  pure_intro (fun a w => Tryz.call114 a w) Tryz.func114 rfl Tryz.ntmps114 rfl .int fun B => by
    refine pa [.b false, .b false, .b false] rfl ?_ ?_
    · (repeat' with_reducible apply AllP_cons) <;> try exact aC
      all_goals decide +kernel
    refine S_retc .int rfl trivial ?_
    rfl
theorem LenU0_ok : Calc cx 90 [.int .u64 0] (.int .i64 0) :=
  pure_intro (fun a w => Tryz.call90 a w) Tryz.func90 rfl Tryz.ntmps90 rfl .int fun B => by
    refine pa [.b false, .v (.int .i64 0)] rfl ?_ ?_
    · (repeat' with_reducible apply AllP_cons) <;> try exact aC
      · exact ⟨_, Len0_ok, .cons (.refl .int) (.nil _)⟩
    exact S_retc .int rfl trivial rfl
end Go.Proofs.YtgmakmfdjhgjlaaGreatDoor
end
section
set_option linter.unusedVariables false
set_option linter.unusedSimpArgs false
set_option maxRecDepth 20000
set_option maxHeartbeats 4000000
namespace Go.Proofs.YtgmakmfdjhgjlaaGreatDoor
open Go Go.Ab
theorem ok_paths {l : List Fil} (h : okT l) : (l.map Fil.path).Nodup := by
  refine List.pairwise_map.2 (h.1.imp fun {f g} h e => ?_)
  rw [e, bl_irr] at h; cases h
end Go.Proofs.YtgmakmfdjhgjlaaGreatDoor
end
section
set_option linter.unusedVariables false
set_option linter.unusedSimpArgs false
set_option maxRecDepth 20000
set_option maxHeartbeats 4000000
namespace Go.Proofs.YtgmakmfdjhgjlaaGreatDoor
open Go Go.Ab
theorem lastF_app (u v : List Fil) (p : List UInt8) : lastF (u ++ v) p = if p ∈ ksP v then lastF v p else lastF u p := by
  have hf : ∀ (l : List Fil), p ∉ ksP l → l.reverse.find? (fun f => f.path == p) = none := fun l h => by
    rw [List.find?_eq_none]
    intro f hf e
    exact h (ksP_mem.2 ⟨f, by simpa using hf, by simpa using e⟩)
  have ht : ∀ (l : List Fil), p ∈ ksP l → ∃ f, l.reverse.find? (fun f => f.path == p) = some f := fun l h => by
    cases hq : l.reverse.find? (fun f => f.path == p) with
    | some f => exact ⟨f, rfl⟩
    | none =>
      rw [List.find?_eq_none] at hq
      obtain ⟨f, h1, h2⟩ := ksP_mem.1 h
      exact absurd (by simpa using h2) (hq f (by simpa using h1))
  unfold lastF
  rw [List.reverse_append, List.find?_append]
  by_cases h : p ∈ ksP v
  · rw [if_pos h]
    obtain ⟨f, hq⟩ := ht v h
    rw [hq]; rfl
  · rw [if_neg h, hf v h]; rfl
end Go.Proofs.YtgmakmfdjhgjlaaGreatDoor
end
section
set_option linter.unusedVariables false
set_option linter.unusedSimpArgs false
set_option maxRecDepth 20000
set_option maxHeartbeats 4000000
namespace Go.Proofs.YtgmakmfdjhgjlaaGreatDoor
open Go Go.Ab
theorem ov_paths (c : List Fil) : (ovT c).map Fil.path = sortT (ksP c) := by
  unfold ovT
  rw [List.map_map]
  conv => rhs; rw [← List.map_id (sortT (ksP c))]
  refine List.map_congr_left fun p hp => ?_
  exact (lastF_mem ((sortT_perm _).mem_iff.1 hp)).2
theorem ksP_add (c : List Fil) (f : Fil) : ksP (c ++ [f]) = addU (ksP c) f.path := by unfold ksP; rw [List.foldl_append]; rfl
theorem lastF_add (c : List Fil) (f : Fil) (p : List UInt8) : lastF (c ++ [f]) p = if p = f.path then f else lastF c p := by
  rw [lastF_app]
  have hk : p ∈ ksP [f] ↔ p = f.path := by rw [ksP_mem]; simp [eq_comm]
  by_cases h : p = f.path
  · rw [if_pos (hk.2 h), if_pos h]
    obtain ⟨h1, _⟩ := lastF_mem (hk.2 h)
    simpa using h1
  · rw [if_neg (fun e => h (hk.1 e)), if_neg h]
end Go.Proofs.YtgmakmfdjhgjlaaGreatDoor
end
section
set_option linter.unusedVariables false
set_option linter.unusedSimpArgs false
set_option maxRecDepth 20000
namespace Go.Proofs.YtgmakmfdjhgjlaaGreatDoor
open Go Go.Ab
def digs (n : Nat) : List UInt8 := if h : n < 10 then [UInt8.ofNat (48 + n)] else digs (n / 10) ++ [UInt8.ofNat (48 + n % 10)]
termination_by n
decreasing_by omega
theorem digs_len (n : Nat) : ∀ m, m = n → (digs m).length ≤ m + 1 := by
  induction n using Nat.strongRecOn with
  | _ n ih =>
    intro m hm
    rw [digs]
    split
    · simp
    · have := ih (m / 10) (by omega) (m / 10) rfl
      rw [List.length_append]; simp only [List.length_cons, List.length_nil]; omega
end Go.Proofs.YtgmakmfdjhgjlaaGreatDoor
end
section
set_option linter.unusedVariables false
set_option linter.unusedSimpArgs false
set_option maxRecDepth 20000
namespace Go.Proofs.YtgmakmfdjhgjlaaGreatDoor
open Go Go.Ab
def laysItoa_ren : Go.Shelf.Ren := ⟨fun | 171 => 50 | 243 => 84 | 246 => 103 | 283 => 125 | 284 => 126 | 285 => 127 | 286 => 128 | 129 => 114 | 317 => 149 | 318 => 150 | 319 => 151 | 320 => 152 | 337 => 160 | 338 => 161 | n => n, fun | 3 => 3 | 9 => 9 | 2 => 2 | 4 => 4 | 171 => 133 | 0 => 0 | 53 => 113 | 37 => 87 | 5 => 5 | 173 => 135 | 212 => 158 | 51 => 115 | 20 => 20 | 213 => 159 | 46 => 100 | 232 => 98 | 233 => 179 | n => n, fun | 17 => 3 | 18 => 8 | 19 => 9 | n => n⟩
theorem laysItoa : Go.Proofs.LaysM.n171 Tryz.prog laysItoa_ren := {
  mixed := by kernel_rfl
  f129 := Tryz.func114.trans (congrArg some (by kernel_rfl))
  f171 := Tryz.func50.trans (congrArg some (by kernel_rfl))
  f243 := Tryz.func84.trans (congrArg some (by kernel_rfl))
  f246 := Tryz.func103.trans (congrArg some (by kernel_rfl))
  f283 := Tryz.func125.trans (congrArg some (by kernel_rfl))
  f284 := Tryz.func126.trans (congrArg some (by kernel_rfl))
  f285 := Tryz.func127.trans (congrArg some (by kernel_rfl))
  f286 := Tryz.func128.trans (congrArg some (by kernel_rfl))
  f317 := Tryz.func149.trans (congrArg some (by kernel_rfl))
  f318 := Tryz.func150.trans (congrArg some (by kernel_rfl))
  f319 := Tryz.func151.trans (congrArg some (by kernel_rfl))
  f320 := Tryz.func152.trans (congrArg some (by kernel_rfl))
  f337 := Tryz.func160.trans (congrArg some (by kernel_rfl))
  f338 := Tryz.func161.trans (congrArg some (by kernel_rfl))
  t0 := Tryz.underlying0
  a0 := Tryz.isAgg0
  z0 := Tryz.sizeOf0
  v0 := Tryz.zeroValue0
  t2 := Tryz.underlying2
  a2 := Tryz.isAgg2
  z2 := Tryz.sizeOf2
  v2 := Tryz.zeroValue2
  t3 := Tryz.underlying3
  a3 := Tryz.isAgg3
  z3 := Tryz.sizeOf3
  v3 := Tryz.zeroValue3
  t4 := Tryz.underlying4
  a4 := Tryz.isAgg4
  z4 := Tryz.sizeOf4
  v4 := Tryz.zeroValue4
  t5 := Tryz.underlying5
  a5 := Tryz.isAgg5
  z5 := Tryz.sizeOf5
  v5 := Tryz.zeroValue5
  t9 := Tryz.underlying9
  a9 := Tryz.isAgg9
  z9 := Tryz.sizeOf9
  v9 := Tryz.zeroValue9
  t20 := Tryz.underlying20
  a20 := Tryz.isAgg20
  z20 := Tryz.sizeOf20
  v20 := Tryz.zeroValue20
  t37 := Tryz.underlying87
  a37 := Tryz.isAgg87
  z37 := Tryz.sizeOf87
  v37 := Tryz.zeroValue87
  t46 := Tryz.underlying100
  a46 := Tryz.isAgg100
  z46 := Tryz.sizeOf100
  v46 := Tryz.zeroValue100
  t51 := Tryz.underlying115
  a51 := Tryz.isAgg115
  z51 := Tryz.sizeOf115
  v51 := Tryz.zeroValue115
  t53 := Tryz.underlying113
  a53 := Tryz.isAgg113
  z53 := Tryz.sizeOf113
  v53 := Tryz.zeroValue113
  t171 := Tryz.underlying133
  a171 := Tryz.isAgg133
  z171 := Tryz.sizeOf133
  v171 := Tryz.zeroValue133
  t173 := Tryz.underlying135
  a173 := Tryz.isAgg135
  z173 := Tryz.sizeOf135
  v173 := Tryz.zeroValue135
  t212 := Tryz.underlying158
  a212 := Tryz.isAgg158
  z212 := Tryz.sizeOf158
  v212 := Tryz.zeroValue158
  t213 := Tryz.underlying159
  a213 := Tryz.isAgg159
  z213 := Tryz.sizeOf159
  t232 := Tryz.underlying98
  a232 := Tryz.isAgg98
  z232 := Tryz.sizeOf98
  v232 := Tryz.zeroValue98
  t233 := Tryz.underlying179
  a233 := Tryz.isAgg179
  z233 := Tryz.sizeOf179
  v233 := Tryz.zeroValue179
  g17 := by kernel_rfl
  g18 := by kernel_rfl
  g19 := by kernel_rfl
  i0 := by kernel_rfl
  i2 := by kernel_rfl
  i3 := by kernel_rfl
  i4 := by kernel_rfl
  i5 := by kernel_rfl
  i9 := by kernel_rfl
  i20 := by kernel_rfl
  i37 := by kernel_rfl
  i46 := by kernel_rfl
  i51 := by kernel_rfl
  i53 := by kernel_rfl
  i171 := by kernel_rfl
  i173 := by kernel_rfl
  i212 := by kernel_rfl
  i232 := by kernel_rfl
  i233 := by kernel_rfl
  m17 := by kernel_rfl
  m18 := by kernel_rfl
  m19 := by kernel_rfl }
theorem gPow : Tryz.prog.globalNamed "internal/strconv.uint64pow10" = some 3 := by kernel_rfl
theorem pow10_whole : (Lib.pow10Tab.map fun z => Value.int .u64 z).toArray = pow10V := by unfold Lib.pow10Tab pow10V; rw [List.map_map]; rfl
theorem Itoa_ok (n : Int) (h0 : -9223372036854775808 ≤ n) (h1 : n ≤ 9223372036854775807) : Calc cx 50 [.int .i64 n] (.str (Lib.itoa n)) :=
  .told (fun a w => Tryz.call50 a w) .str fun r w vs hi hv => by
    obtain ⟨hs, hv⟩ := hv
    have h := hv 0 (Nat.zero_lt_succ _)
    have hvs : vs = #[.int .i64 n] := by
      refine Array.ext_getElem? fun i => ?_
      match i with
      | 0 =>
        cases hx : vs[0]? with
        | none => rw [Array.getElem?_eq_none_iff] at hx; simp at hs; omega
        | some x =>
          have : vs.getD 0 undef = x := by simp [Array.getD_eq_getD_getElem?, hx]
          rw [this] at h
          cases h; rfl
      | i + 1 =>
        have : vs.size = 1 := hs
        rw [Array.getElem?_eq_none (by omega), Array.getElem?_eq_none (by simp)]
    subst hvs
    refine ⟨.string ⟨(Lib.itoa n).toArray⟩, fun w' => .str rfl, ?_⟩
    exact Any.strconv_Itoa laysItoa n h0 h1 w (by
      unfold Lib.TabIs
      rw [pow10_whole]
      exact hi.whole gPow rfl)
end Go.Proofs.YtgmakmfdjhgjlaaGreatDoor
end
section
set_option linter.unusedVariables false
set_option linter.unusedSimpArgs false
set_option maxRecDepth 20000
set_option maxHeartbeats 4000000
namespace Go.Proofs.YtgmakmfdjhgjlaaGreatDoor
open Go Go.Ab
theorem digs_dec (n : Nat) : ∀ m, m = n → digs m = Lib.decDigits m := by
  induction n using Nat.strongRecOn with
  | _ n ih =>
    intro m hm
    rw [digs, Lib.decDigits]
    by_cases h : m < 10
    · rw [dif_pos h, dif_pos h]
    · rw [dif_neg h, dif_neg h, ih (m / 10) (by omega) (m / 10) rfl]
theorem itoa_digs (n : Nat) : Lib.itoa (n : Int) = digs n := by
  rw [digs_dec n n rfl]
  unfold Lib.itoa
  rw [if_neg (by omega)]
  simp
end Go.Proofs.YtgmakmfdjhgjlaaGreatDoor
end
section
set_option linter.unusedVariables false
set_option linter.unusedSimpArgs false
set_option maxRecDepth 20000
namespace Go.Proofs.YtgmakmfdjhgjlaaGreatDoor
open Go Go.Ab
def checkL (l : List (List UInt8)) (most : Nat) : Nat := if most < l.length then 2 else if l.any (fun s => decide (100000 < s.length)) then 2 else 0
theorem CheckList_ok {st fl : Bool} (l : List (List UInt8)) (most : Nat) (hl : l.length ≤ 9223372036854775806) : Calc cx 23 [.sl st fl 1 (texts l), .int .i64 most] (.int .i64 (checkL l most : Nat)) :=
  pure_intro (fun a w => Tryz.call23 a w) Tryz.func23 rfl Tryz.ntmps23 rfl .int fun B => by
    refine ab 1000 rfl trivial ?_
    refine S_dec rfl (fun h => ?_) (fun h => ?_)
    · have h : most < l.length := by simp [texts] at h; omega
      refine ab 1000 rfl trivial ?_
      refine S_retc .int rfl trivial ?_
      rw [checkL, if_pos h]; rfl
    · have h : ¬ most < l.length := by simp [texts] at h; omega
      refine ab 1000 rfl trivial ?_
      refine S_while (α := Nat) (fun i => [(0, .sl st fl 1 (texts l)), (5, .int .i64 i)]) (fun _ => []) (fun i => i ≤ l.length ∧ (l.take i).any (fun s => decide (100000 < s.length)) = false) (fun i => l.length - i) 0
        ⟨Nat.zero_le _, rfl⟩ (.cons rfl (.cons rfl (.nil _))) rfl ?_
      rintro i ⟨hi, hN⟩
      refine ab 1000 rfl trivial ?_
      refine S_dec rfl (fun hlt => ?_) (fun hlt => ?_)
      · have hil : i < l.length := by simp [texts] at hlt; omega
        refine ab 1000 rfl trivial ?_
        refine S_index (.str l[i]) rfl rfl rfl ⟨rfl, by omega, by simp [texts, List.getElem?_eq_getElem hil], trivial⟩ ?_
        refine ab 1000 rfl trivial ?_
        refine S_dec rfl (fun hb => ?_) (fun hb => ?_)
        · have hb : 100000 < l[i].length := by omega
          refine ab 1000 rfl trivial ?_
          refine S_retc .int rfl trivial ?_
          rw [checkL, if_neg h, if_pos (List.any_eq_true.2 ⟨l[i], List.getElem_mem hil, by simpa using hb⟩)]; rfl
        · have hb : ¬ 100000 < l[i].length := by omega
          refine ab 1000 rfl trivial ?_
          refine S_round (i + 1) (by show l.length - (i + 1) < l.length - i; omega) ⟨hil, ?_⟩ (.cons rfl (.cons (ai64 rfl (by omega)) (.nil _))) rfl
          rw [List.take_succ_eq_append_getElem hil, List.any_append, hN]
          simp; omega
      · have hil : i = l.length := by simp [texts] at hlt; omega
        refine ab 1000 rfl trivial ?_
        refine S_retc .int rfl trivial ?_
        rw [hil, List.take_length] at hN
        rw [checkL, if_neg h, if_neg (by rw [hN]; simp)]; rfl
end Go.Proofs.YtgmakmfdjhgjlaaGreatDoor
end
section
set_option linter.unusedVariables false
set_option linter.unusedSimpArgs false
set_option maxRecDepth 20000
namespace Go.Proofs.YtgmakmfdjhgjlaaGreatDoor
open Go Go.Ab
structure Ln where
  op : List UInt8
  ws : List (List UInt8)
  ns : List Nat
def kSet : List UInt8 := [115, 101, 116]
def kRead : List UInt8 := [114, 101, 97, 100]
def kList : List UInt8 := [108, 105, 115, 116]
def kJoin : List UInt8 := [106, 111, 105, 110]
def kCut : List UInt8 := [99, 117, 116]
def kSize : List UInt8 := [115, 105, 122, 101]
def kSum : List UInt8 := [115, 117, 109]
def kMake : List UInt8 := [109, 97, 107, 101]
def kRun : List UInt8 := [114, 117, 110]
def kSame : List UInt8 := [115, 97, 109, 101]
def kLess : List UInt8 := [108, 101, 115, 115]
def kGoto : List UInt8 := [103, 111, 116, 111]
def kExit : List UInt8 := [101, 120, 105, 116]
def formL : List (List UInt8 × List UInt8) := [(kSet, [114, 116]), (kRead, [114, 112]), (kList, [114, 100]), (kJoin, [114, 114]), (kCut, [114, 110, 110]), (kSize, [114, 114]), (kSum, [114]), (kMake, [112, 114]), (kRun, [112, 114]), (kSame, [114, 114, 108]), (kLess, [114, 114, 108]), (kGoto, [108]), (kExit, [101])]
def formT' (w : List UInt8) : Option (List UInt8) := (formL.find? fun p => p.1 == w).map Prod.snd
def regB (s : List UInt8) : Bool := match s with
  | [c] => decide (97 ≤ c) && decide (c ≤ 104)
  | _ => false
def digB (c : UInt8) : Bool := decide (48 ≤ c) && decide (c ≤ 57)
def valN (s : List UInt8) : Nat := s.foldl (fun n c => 10 * n + (c.toNat - 48)) 0
def numT (s : List UInt8) (most : Nat) : Option Nat :=
  if s.all digB = true ∧ s ≠ [] ∧ s.length ≤ 6 ∧ ¬ (1 < s.length ∧ s.head? = some 48) ∧ valN s ≤ most then some (valN s) else none
def wordT (c : UInt8) (w : List UInt8) (lines : Nat) : Option Nat :=
  if c = 114 then (if regB w then some 0 else none)
  else if c = 112 then (if isPathB w then some 0 else none)
  else if c = 100 then (if w == [46] || isPathB w then some 0 else none)
  else if c = 110 then numT w 999999
  else if c = 108 then numT w lines
  else if c = 101 then numT w 99
  else some 0
def wordsT (lines : Nat) : List UInt8 → List (List UInt8) → Option (List Nat)
  | [], [] => some []
  | c :: f, w :: ws => match wordT c w lines with
    | none => none
    | some n => (wordsT lines f ws).map (n :: ·)
  | _, _ => none
def fst32 (p : List UInt8) : List UInt8 := p.takeWhile (fun c => c != 32)
def rst32 (p : List UInt8) : List UInt8 := (p.dropWhile (fun c => c != 32)).drop 1
def lnOf (lines : Nat) (s : List UInt8) : Option Ln :=
  match formT' (fst32 s) with
  | none => none
  | some f =>
    if f = [114, 116] then (if (rst32 s).contains 32 && regB (fst32 (rst32 s)) then some ⟨fst32 s, [fst32 (rst32 s), rst32 (rst32 s)], []⟩ else none)
    else (wordsT lines f (splitB 32 (rst32 s))).map fun ns => ⟨fst32 s, splitB 32 (rst32 s), ns⟩
def progT (lines : Nat) : List (List UInt8) → Option (List Ln)
  | [] => some []
  | s :: r => match lnOf lines s with
    | none => none
    | some x => (progT lines r).map (x :: ·)
def badLn (lines : Nat) : List (List UInt8) → Nat
  | [] => 0
  | s :: r => match lnOf lines s with
    | none => 0
    | some _ => badLn lines r + 1
def comE (l : List (List UInt8)) : Nat := if checkL l 60 = 0 then (if (progT l.length l).isSome then 0 else 1) else 2
def comI (l : List (List UInt8)) : Nat := if comE l = 1 then badLn l.length l else 0
structure Mc where
  regs : List UInt8 → List UInt8
  ks : List (List UInt8)
  made : List Fil
  pc : Nat
  left : Nat
  code : Nat
  done : Bool
def endM (c : Nat) (m : Mc) : Mc := { m with code := c, done := true }
def tripM (c : Nat) (m : Mc) : Mc := if m.left < 1 then endM 104 { m with left := 0 } else endM c { m with left := m.left - 1 }
def keepM (t : List UInt8) (k : Mc → Mc) (m : Mc) : Mc :=
  if 100000 < t.length then tripM 102 m
  else if m.left < 1 + t.length / 16 then endM 104 { m with left := 0 }
  else k { m with left := m.left - (1 + t.length / 16) }
def updT (f : List UInt8 → List UInt8) (r t : List UInt8) : List UInt8 → List UInt8 := fun k => if k = r then t else f k
def setM (r t : List UInt8) (m : Mc) : Mc := keepM t (fun m => { m with regs := updT m.regs r t, ks := addK m.ks r }) m
def badM (p : List UInt8) (c : List Fil) : Bool := (ksP c).any fun q => q != p && meetT q p
def makeM (p t : List UInt8) (run : Bool) (m : Mc) : Mc :=
  if badM p m.made = true ∨ p ∉ ksP m.made ∧ (ksP m.made).length = 60 then tripM 103 m
  else keepM t (fun m => { m with made := m.made ++ [⟨p, t, run⟩] }) m
def jumpM (is : Bool) (to : Nat) (m : Mc) : Mc :=
  if m.left < 1 then endM 104 { m with left := 0 } else if is then { m with left := m.left - 1, pc := to } else { m with left := m.left - 1 }
def exitM (c : Nat) (m : Mc) : Mc := if m.left < 1 then endM 104 { m with left := 0 } else endM c { m with left := m.left - 1 }
def listT (files : List Fil) (d : List UInt8) : List UInt8 := files.flatMap fun f => if d = [46] ∨ insT d f.path = true then f.path ++ [10] else []
def wAt (l : List (List UInt8)) (i : Nat) : List UInt8 := l.getD i []
def nAt (l : List Nat) (i : Nat) : Nat := l.getD i 0
def stepM (files : List Fil) (x : Ln) (m : Mc) : Mc :=
  let a := wAt x.ws 0
  let b := wAt x.ws 1
  if x.op = kSet then setM a b m
  else if x.op = kRead then (match files.find? (fun f => f.path == b) with | none => tripM 101 m | some f => setM a f.text m)
  else if x.op = kList then setM a (listT files b) m
  else if x.op = kJoin then setM a (m.regs a ++ m.regs b) m
  else if x.op = kCut then setM a (((m.regs a).take (min (m.regs a).length (nAt x.ns 2))).drop (min (min (m.regs a).length (nAt x.ns 2)) (nAt x.ns 1))) m
  else if x.op = kSize then setM a (digs (m.regs b).length) m
  else if x.op = kSum then setM a (sha (m.regs a)) m
  else if x.op = kMake then makeM a (m.regs b) false m
  else if x.op = kRun then makeM a (m.regs b) true m
  else if x.op = kSame then jumpM (m.regs a == m.regs b) (nAt x.ns 2) m
  else if x.op = kLess then jumpM (Op.bytesLess (m.regs a) (m.regs b)) (nAt x.ns 2) m
  else if x.op = kGoto then jumpM true (nAt x.ns 0) m
  else exitM (nAt x.ns 0) m
def runM (files : List Fil) (prog : List Ln) : Nat → Mc → Mc
  | 0, m => m
  | n + 1, m => if m.done then m else match prog[m.pc]? with
    | none => m
    | some x => runM files prog n (stepM files x { m with pc := m.pc + 1 })
def mc0 (fuel : Nat) : Mc := ⟨fun _ => [], [], [], 0, fuel, 0, false⟩
def boxE (files : List Fil) (com : List (List UInt8)) (fuel : Int) : Nat := if chkT files = 0 then (if comE com = 0 then (if fuel < 0 ∨ 100000 < fuel then 3 else 0) else comE com) else chkT files
def runT (files : List Fil) (com : List (List UInt8)) (fuel : Nat) : Mc := runM files ((progT com.length com).getD []) (fuel + 1) (mc0 fuel)
end Go.Proofs.YtgmakmfdjhgjlaaGreatDoor
end
section
set_option linter.unusedVariables false
set_option linter.unusedSimpArgs false
set_option maxRecDepth 20000
namespace Go.Proofs.YtgmakmfdjhgjlaaGreatDoor
open Go Go.Ab
theorem fst32_ok (p : List UInt8) : (p.count 32 = 0 ∧ fst32 p = p ∧ rst32 p = []) ∨ (0 < p.count 32 ∧ p = fst32 p ++ 32 :: rst32 p) := by
  induction p with
  | nil => exact .inl ⟨rfl, rfl, rfl⟩
  | cons c p ih =>
    by_cases hc : c = 32
    · subst hc
      exact .inr ⟨by simp, rfl⟩
    · have h1 : fst32 (c :: p) = c :: fst32 p := by unfold fst32; rw [List.takeWhile_cons, if_pos (by simpa using hc)]
      have h2 : rst32 (c :: p) = rst32 p := by unfold rst32; rw [List.dropWhile_cons, if_pos (by simpa using hc)]
      have h3 : (c :: p).count 32 = p.count 32 := by rw [List.count_cons, if_neg (by simpa using hc)]; rfl
      rw [h1, h2, h3]
      rcases ih with ⟨a, b, d⟩ | ⟨a, b⟩
      · exact .inl ⟨a, by rw [b], d⟩
      · exact .inr ⟨a, by rw [List.cons_append, ← b]⟩
theorem fst32_ix (p : List UInt8) : (Lib.indexByte p 32 = -1 ∧ fst32 p = p ∧ rst32 p = []) ∨ (∃ m : Nat, Lib.indexByte p 32 = m ∧ m < p.length ∧ fst32 p = p.take m ∧ rst32 p = p.drop (m + 1)) := by
  induction p with
  | nil => exact .inl ⟨rfl, rfl, rfl⟩
  | cons c p ih =>
    by_cases hc : c = 32
    · subst hc
      exact .inr ⟨0, by simp [Lib.indexByte], by simp, rfl, rfl⟩
    · have h1 : fst32 (c :: p) = c :: fst32 p := by unfold fst32; rw [List.takeWhile_cons, if_pos (by simpa using hc)]
      have h2 : rst32 (c :: p) = rst32 p := by unfold rst32; rw [List.dropWhile_cons, if_pos (by simpa using hc)]
      rw [h1, h2]
      rcases ih with ⟨a, b, d⟩ | ⟨m, a, b, d, e⟩
      · exact .inl ⟨by rw [Lib.indexByte, if_neg (by simpa using hc), if_pos (by rw [a]; rfl)], by rw [b], d⟩
      · exact .inr ⟨m + 1, by rw [Lib.indexByte, if_neg (by simpa using hc), if_neg (by rw [a]; simp), a]; rfl, by simp; omega, by rw [d]; rfl, by rw [e]; rfl⟩
theorem rst32_len (p : List UInt8) : (rst32 p).length ≤ p.length - 1 := by
  rcases fst32_ok p with ⟨_, _, h⟩ | ⟨_, h⟩
  · rw [h]; simp
  · have := congrArg List.length h
    rw [List.length_append, List.length_cons] at this; omega
theorem fst32_len (p : List UInt8) : (fst32 p).length ≤ p.length := by
  rcases fst32_ok p with ⟨_, h, _⟩ | ⟨_, h⟩
  · rw [h]; exact Nat.le_refl _
  · have := congrArg List.length h
    rw [List.length_append, List.length_cons] at this; omega
theorem split_fst32 (p : List UInt8) : splitB 32 p = fst32 p :: (if p.count 32 = 0 then [] else splitB 32 (rst32 p)) := by
  induction p with
  | nil => rfl
  | cons c p ih =>
    by_cases hc : c = 32
    · subst hc
      rw [splitB, if_pos rfl, if_neg (by simp)]; rfl
    · have h1 : fst32 (c :: p) = c :: fst32 p := by unfold fst32; rw [List.takeWhile_cons, if_pos (by simpa using hc)]
      have h2 : rst32 (c :: p) = rst32 p := by unfold rst32; rw [List.dropWhile_cons, if_pos (by simpa using hc)]
      have h3 : (c :: p).count 32 = p.count 32 := by rw [List.count_cons, if_neg (by simpa using hc)]; rfl
      rw [h1, h2, h3, splitB, if_neg hc, ih]
def cut32AV (s : List UInt8) : AV := .tup [.str (fst32 s), .str (rst32 s), .bool (decide (0 ≤ Lib.indexByte s 32))]
theorem cut32AV_free (s : List UInt8) : Free true (cut32AV s) := .tup (by intro x hx; simp at hx; rcases hx with rfl | rfl | rfl; exact .str; exact .str; exact .bool)
theorem sCut32_ok (s : List UInt8) (hs : s.length ≤ 1000000000) : Calc cx 101 [.str s, .str [32]] (cut32AV s) :=
  pure_intro (fun a w => Tryz.call101 a w) Tryz.func101 rfl Tryz.ntmps101 rfl (cut32AV_free s) fun B => by
    have hI := sIndex_ok s 32
    unfold cut32AV
    rcases fst32_ix s with ⟨h1, h2, h3⟩ | ⟨m, h1, h2, h3, h4⟩
    · rw [h1] at hI ⊢
      rw [h2, h3]
      refine pa [.v (.int .i64 (-1)), .b false] rfl ?_ ?_
      · (repeat' with_reducible apply AllP_cons) <;> try exact aC
        · exact ⟨_, hI, .cons (.refl .str) (.cons (.refl .str) (.nil _))⟩
      exact S_retc (.tup (by intro x hx; simp at hx; rcases hx with rfl | rfl | rfl; exact .str; exact .str; exact .bool)) rfl trivial rfl
    · rw [h1] at hI ⊢
      have e1 : decide ((m : Int) ≥ 0) = true := decide_eq_true (by omega)
      have hw : IntKind.i64.wrap ((m : Int) + ((([32] : List UInt8).length : Nat) : Int)) = ((m + 1 : Nat) : Int) := by
        show IntKind.i64.wrap ((m : Int) + 1) = ((m + 1 : Nat) : Int)
        exact w64 (by omega) (by omega)
      refine pa [.v (.int .i64 (m : Nat)), .b true] rfl ?_ ?_
      · (repeat' with_reducible apply AllP_cons) <;> try exact aC
        · exact ⟨_, hI, .cons (.refl .str) (.cons (.refl .str) (.nil _))⟩
        all_goals (rw [hw]; omega)
      refine S_retc (.tup (by intro x hx; simp at hx; rcases hx with rfl | rfl | rfl; exact .str; exact .str; exact .bool)) rfl trivial ?_
      rw [h3, h4]
      show AV.tup [.str (cutL none (some (m : Int)) s), .str (cutL (some (IntKind.i64.wrap ((m : Int) + ((([32] : List UInt8).length : Nat) : Int)))) none s), .bool true] = _
      rw [hw, decide_eq_true (by omega)]
      simp [cutL]
theorem Cut32_ok (s : List UInt8) (hs : s.length ≤ 1000000000) : Calc cx 74 [.str s, .str [32]] (cut32AV s) :=
  pure_intro (fun a w => Tryz.call74 a w) Tryz.func74 rfl Tryz.ntmps74 rfl (cut32AV_free s) fun B => by
    refine pa [.v (cut32AV s)] rfl ?_ ?_
    · (repeat' with_reducible apply AllP_cons) <;> try exact aC
      · exact ⟨_, sCut32_ok s hs, .cons (.refl .str) (.cons (.refl .str) (.nil _))⟩
    exact S_retc (cut32AV_free s) rfl trivial rfl
end Go.Proofs.YtgmakmfdjhgjlaaGreatDoor
end
section
set_option linter.unusedVariables false
set_option linter.unusedSimpArgs false
set_option maxRecDepth 20000
namespace Go.Proofs.YtgmakmfdjhgjlaaGreatDoor
open Go Go.Ab
def rightW (lines : Nat) (w : List UInt8) (r : List (List UInt8)) : Bool := match formT' w with
  | none => false
  | some f => if f = [114, 116] then (match r with
    | a :: _ :: _ => regB a
    | _ => false) else (wordsT lines f r).isSome
theorem regB_one {a : List UInt8} (h : regB a = true) : ∃ c, a = [c] ∧ 97 ≤ c ∧ c ≤ 104 := by
  match a, h with
  | [c], h =>
    unfold regB at h
    rw [Bool.and_eq_true, decide_eq_true_eq, decide_eq_true_eq] at h
    exact ⟨c, rfl, h.1, h.2⟩
theorem formL_mem {w f : List UInt8} (h : formT' w = some f) : (w, f) ∈ formL := by
  unfold formT' at h
  cases hq : formL.find? (fun p => p.1 == w) with
  | none => rw [hq] at h; cases h
  | some p =>
    rw [hq] at h
    have h1 := List.mem_of_find?_eq_some hq
    have h2 := List.find?_some hq
    have h2 : p.1 = w := by simpa using h2
    obtain rfl : p.2 = f := Option.some.inj h
    rw [← h2]; exact h1
theorem words_empty {lines : Nat} {w f : List UInt8} (h : formT' w = some f) (h1 : f ≠ [114, 116]) : wordsT lines f [[]] = none ∧ wordsT lines f [] = none := by
  have := formL_mem h
  simp only [formL, List.mem_cons, Prod.mk.injEq, List.not_mem_nil, or_false] at this
  rcases this with ⟨_, rfl⟩ | ⟨_, rfl⟩ | ⟨_, rfl⟩ | ⟨_, rfl⟩ | ⟨_, rfl⟩ | ⟨_, rfl⟩ | ⟨_, rfl⟩ | ⟨_, rfl⟩ | ⟨_, rfl⟩ | ⟨_, rfl⟩ | ⟨_, rfl⟩ | ⟨_, rfl⟩ | ⟨_, rfl⟩
  · exact absurd rfl h1
  all_goals refine ⟨?_, rfl⟩
  all_goals simp [wordsT, wordT, regB, isPathB, numT, splitB, isName]
theorem split32_tail (s : List UInt8) : (splitB 32 s).tail = if s.count 32 = 0 then [] else splitB 32 (rst32 s) := by rw [split_fst32]; rfl
theorem words_tail {lines : Nat} {s f : List UInt8} (h : formT' (fst32 s) = some f) (h1 : f ≠ [114, 116]) : wordsT lines f (splitB 32 (rst32 s)) = wordsT lines f (splitB 32 s).tail := by
  obtain ⟨k1, k2⟩ := words_empty (lines := lines) h h1
  rw [split32_tail]
  rcases fst32_ok s with ⟨h0, _, h2⟩ | ⟨h0, _⟩
  · rw [if_pos h0, h2, k2]; exact k1
  · rw [if_neg (show ¬ s.count 32 = 0 by omega)]
theorem split_two (s : List UInt8) : (∃ b t, splitB 32 s = fst32 s :: b :: t ∧ s.contains 32 = true) ∨ (splitB 32 s = [s] ∧ s.contains 32 = false ∧ fst32 s = s) := by
  rcases fst32_ok s with ⟨h0, h1, _⟩ | ⟨h0, _⟩
  · refine .inr ⟨split_none h0, ?_, h1⟩
    simpa using List.count_eq_zero.1 h0
  · have h2 := split_fst32 s
    rw [if_neg (show ¬ s.count 32 = 0 by omega)] at h2
    have h3 : s.contains 32 = true := by simpa using List.count_pos_iff.1 h0
    cases hq : splitB 32 (rst32 s) with
    | nil => exact absurd hq (splitB_ne _ _)
    | cons b t => rw [hq] at h2; exact .inl ⟨b, t, h2, h3⟩
theorem right_ln (lines : Nat) (s : List UInt8) : (lnOf lines s).isSome = rightW lines (fst32 s) (splitB 32 s).tail := by
  unfold lnOf rightW
  cases hf : formT' (fst32 s) with
  | none => rfl
  | some f =>
    show (if f = [114, 116] then _ else _ : Option Ln).isSome = if f = [114, 116] then _ else _
    by_cases h1 : f = [114, 116]
    · rw [if_pos h1, if_pos h1, split32_tail]
      rcases fst32_ok s with ⟨h0, _, h2⟩ | ⟨h0, _⟩
      · rw [if_pos h0, h2]; rfl
      · rw [if_neg (show ¬ s.count 32 = 0 by omega)]
        rcases split_two (rst32 s) with ⟨b, t, h3, h4⟩ | ⟨h3, h4, _⟩
        · rw [h3, h4]
          show (if (true && regB (fst32 (rst32 s))) = true then _ else _ : Option Ln).isSome = regB (fst32 (rst32 s))
          rw [Bool.true_and]
          cases regB (fst32 (rst32 s)) <;> rfl
        · rw [h3, h4]; rfl
    · rw [if_neg h1, if_neg h1, ← words_tail hf h1, Option.isSome_map]
theorem ln_set {lines : Nat} {s : List UInt8} {x : Ln} (h : lnOf lines s = some x) (h0 : fst32 s = kSet) : ∃ c b t, 97 ≤ c ∧ c ≤ 104 ∧ splitB 32 s = kSet :: [c] :: b :: t ∧ x = ⟨kSet, [[c], s.drop 6], []⟩ := by
  have hf : formT' (fst32 s) = some [114, 116] := by rw [h0]; rfl
  unfold lnOf at h
  rw [hf] at h
  replace h : (if (rst32 s).contains 32 && regB (fst32 (rst32 s)) then some (⟨fst32 s, [fst32 (rst32 s), rst32 (rst32 s)], []⟩ : Ln) else none) = some x := h
  split at h
  · rename_i hc
    rw [Bool.and_eq_true] at hc
    obtain ⟨c1, c2⟩ := hc
    obtain ⟨c, e1, e2, e3⟩ := regB_one c2
    have hs : 0 < s.count 32 := by
      rcases fst32_ok s with ⟨h0, _, h2⟩ | ⟨h0, _⟩
      · rw [h2] at c1; cases c1
      · exact h0
    rcases split_two (rst32 s) with ⟨b, t, h3, h4⟩ | ⟨h3, h4, _⟩
    · refine ⟨c, b, t, e2, e3, ?_, ?_⟩
      · rw [split_fst32, if_neg (show ¬ s.count 32 = 0 by omega), h0, h3, e1]
      · cases h
        have hd : s.drop 6 = rst32 (rst32 s) := by
          rcases fst32_ok s with ⟨h0, _, h2⟩ | ⟨_, k1⟩
          · omega
          · rcases fst32_ok (rst32 s) with ⟨k2, _, _⟩ | ⟨_, k2⟩
            · have := List.count_eq_zero.1 k2
              exact absurd (by simpa using c1) this
            · rw [k2, h0, e1] at k1
              conv => lhs; rw [k1]
              rfl
        rw [hd, h0, e1]
    · rw [h4] at c1; cases c1
  · cases h
theorem ln_other {lines : Nat} {s : List UInt8} {x : Ln} (h : lnOf lines s = some x) (h0 : fst32 s ≠ kSet) : ∃ f, formT' (fst32 s) = some f ∧ f ≠ [114, 116] ∧ x.op = fst32 s ∧ splitB 32 s = fst32 s :: x.ws ∧ wordsT lines f x.ws = some x.ns := by
  unfold lnOf at h
  cases hf : formT' (fst32 s) with
  | none => rw [hf] at h; cases h
  | some f =>
    rw [hf] at h
    have hne : f ≠ [114, 116] := by
      rintro rfl
      have := formL_mem hf
      simp only [formL, List.mem_cons, Prod.mk.injEq, List.not_mem_nil, or_false] at this
      rcases this with ⟨k, _⟩ | ⟨_, k⟩ | ⟨_, k⟩ | ⟨_, k⟩ | ⟨_, k⟩ | ⟨_, k⟩ | ⟨_, k⟩ | ⟨_, k⟩ | ⟨_, k⟩ | ⟨_, k⟩ | ⟨_, k⟩ | ⟨_, k⟩ | ⟨_, k⟩
      · exact h0 k
      all_goals exact absurd k (by decide)
    replace h : (if f = [114, 116] then _ else (wordsT lines f (splitB 32 (rst32 s))).map fun ns => (⟨fst32 s, splitB 32 (rst32 s), ns⟩ : Ln)) = some x := h
    rw [if_neg hne] at h
    cases hw : wordsT lines f (splitB 32 (rst32 s)) with
    | none => rw [hw] at h; cases h
    | some ns =>
      rw [hw] at h
      cases h
      refine ⟨f, rfl, hne, rfl, ?_, hw⟩
      rw [split_fst32]
      have h2 := hw
      rcases fst32_ok s with ⟨k0, _, k2⟩ | ⟨k0, _⟩
      · rw [k2, show splitB 32 [] = [[]] from rfl, (words_empty (lines := lines) hf hne).1] at h2; cases h2
      · rw [if_neg (show ¬ s.count 32 = 0 by omega)]
end Go.Proofs.YtgmakmfdjhgjlaaGreatDoor
end
section
set_option linter.unusedVariables false
set_option linter.unusedSimpArgs false
namespace Go.Ab
open Go
section
variable {cx : Cx} {n : Nat} {B : Bs} {k : List AI} {Q : Post} {fr : Fr} {σ : Heap}
theorem wpAny_frontG {σ' : Heap} {hp : Array Bool → Heap} {ops : Array Oper} {m : Nat} {vals : List AV} {K : List Nat} {Q' : Exit → Act → World → Prop} (hmN : m ≤ ops.size) (hlen : vals.length = m)
    (hread : ∀ j o t, j < m → ops.toList[j]? = some o → t ∈ slotsOf ops.toList o → readOk ops.toList m j t = true)
    (huniq : ∀ i j d, i < m → j < m → dstOf ops.toList i = some d → dstOf ops.toList j = some d → i = j)
    (hch : ∀ j, m < j → j < ops.size → edge ops.toList j (j - 1) = true) (hlo : ∀ j i, edge ops.toList j i = true → i < j)
    (hcl : m < ops.size → ∀ i, i < m → ∃ k, i < k ∧ k ≤ m ∧ edge ops.toList k i = true)
    (hin : ∀ listed : Array Bool, (∀ j, j < m → Listed listed j) → hp listed = σ') (hdst : ∀ (j : Nat) (o : Oper), j < m → ops.toList[j]? = some o → dstOk n o.dst = true)
    (hstep : ∀ (j : Nat) o v, j < m → ops.toList[j]? = some o → vals[j]? = some v → ∀ listed : Array Bool, listed.size = ops.size → ¬ Listed listed j → (∀ i, edge ops.toList j i = true → Listed listed i) → Down ops.toList listed → StepX cx n ops (hp listed) (hp (listed.setIfInBounds j true)) K (restr ops.toList o (ovl (ops.toList.take j) (vals.take j) fr)) o v)
    (hend : ∀ r a w, Inv cx r σ' w → FRel r w n (ovl (ops.toList.take m) vals fr) a → Dfs B a → Ext B.r B.σ B.w r σ' w → wpList cx.P ops Q' (ops.toList.drop m) a w) :
    ∀ (f : Nat) (listed : Array Bool) (r : Rl) (a : Act) (w : World), listed.size = ops.size → unl listed = f → Down ops.toList listed → (∀ j, m ≤ j → ¬ Listed listed j) →
      FL r w n fr ops.toList m vals listed a → Inv cx r (hp listed) w → Dfs B a → Ext B.r B.σ B.w r (hp listed) w → wpAny cx.P .any ops Q' f listed a w := by
  have ovlN : ∀ i, i ≤ m → ∀ vs, (ovl (ops.toList.take i) (vals.take i) fr).get n = .mark vs → fr.get n = .mark vs := by
    intro i him vs hm
    rcases ovl_get (ops.toList.take i) (vals.take i) fr n (by simp [hlen]; omega) with ⟨i', o', v', k1, k2, k3, k4⟩ | ⟨k1, k2⟩
    · exfalso
      have hi'i : i' < i := by
        rcases Nat.lt_or_ge i' i with h' | h'
        · exact h'
        · rw [List.getElem?_eq_none (by simp; omega)] at k1; cases k1
      rw [List.getElem?_take_of_lt hi'i] at k1 k3
      have hds : dstOk n o'.dst = true := hdst i' o' (by omega) k1
      rw [k2] at hds
      have := blt_lt hds
      omega
    · rw [← k2]; exact hm
  have fin : ∀ (f : Nat) (listed : Array Bool) (r : Rl) (a : Act) (w : World), listed.size = ops.size → unl listed = f → (∀ j, j < m → Listed listed j) → (∀ j, m ≤ j → ¬ Listed listed j) →
      FL r w n fr ops.toList m vals listed a → Inv cx r (hp listed) w → Dfs B a → Ext B.r B.σ B.w r (hp listed) w → wpAny cx.P .any ops Q' f listed a w := by
    intro f listed r a w hs hf hall hno hfl hi hd hx
    rw [hin _ hall] at hi hx
    have hcount : unl listed + m = ops.size := by
      have hl : listed.toList = List.replicate m true ++ List.replicate (ops.size - m) false := by
        apply List.ext_getElem
        · simp; omega
        · intro j h1 h2
          have hj : j < listed.size := by simpa using h1
          have h3 : listed.getD j false = listed.toList[j] := by simp [Array.getD_eq_getD_getElem?, hj]
          by_cases hjm : j < m
          · rw [List.getElem_append_left (by simpa using hjm), List.getElem_replicate, ← h3]; exact hall j hjm
          · rw [List.getElem_append_right (by simp; omega), List.getElem_replicate, ← h3]
            have := hno j (by omega)
            unfold Listed at this
            simpa using this
      unfold unl
      rw [hl, List.countP_append, List.countP_replicate, List.countP_replicate]
      simp; omega
    refine wpAny_tail hch hlo f m listed a w (by omega) (Nat.le_refl m) hs (fun i hi' => ⟨fun h => ?_, fun h => hall i h⟩) (hend r a w hi ⟨hfl.size, fun t => ?_, fun vs hm => ?_⟩ hd hx)
    case refine_3 =>
      refine hfl.defs vs (ovlN m (Nat.le_refl _) vs ?_)
      rw [show vals.take m = vals from List.take_of_length_le (by omega)]
      exact hm
    · rcases Nat.lt_or_ge i m with h' | h'
      · exact h'
      · exact absurd h (hno i h')
    · rcases ovl_get (ops.toList.take m) vals fr t (by simp [hlen]; omega) with ⟨i, o, v, h1, h2, h3, h4⟩ | ⟨h1, h2⟩
      · rw [h4]
        have him : i < m := by
          rcases Nat.lt_or_ge i m with h' | h'
          · exact h'
          · rw [List.getElem?_eq_none (by simp; omega)] at h1; cases h1
        rw [List.getElem?_take_of_lt him] at h1
        exact hfl.done i t v him (hall i him) (by simp [dstOf, h1, h2]) h3
      · rw [h2]
        refine hfl.rest t (fun j hj _ hdj => ?_)
        obtain ⟨o, ho, hod⟩ := Option.bind_eq_some_iff.1 hdj
        exact h1 j o (by rw [List.getElem?_take_of_lt hj]; exact ho) hod
  intro f
  induction f with
  | zero =>
    intro listed r a w hs hf hdn hno hfl hi hd hx
    refine fin 0 listed r a w hs hf (fun j hj => ?_) hno hfl hi hd hx
    rcases hb : listed.getD j false with _ | _
    · have := unl_set (by omega) hb
      omega
    · exact hb
  | succ f ih =>
    intro listed r a w hs hf hdn hno hfl hi hd hx
    by_cases hall : ∀ j, j < m → Listed listed j
    · exact fin (f + 1) listed r a w hs hf hall hno hfl hi hd hx
    have hex : ∃ j, j < m ∧ ¬ Listed listed j := by
      apply Classical.byContradiction
      intro h
      exact hall (fun j hj => Classical.byContradiction fun hl => h ⟨j, hj, hl⟩)
    refine ⟨fun h0 => ?_, fun i hir => ?_⟩
    · obtain ⟨j, h1, h2, h3⟩ := exists_least m hex
      have hjr : j ∈ Region.ready .any ops listed := by
        refine mem_ready.2 ⟨?_, ops[j]'(by omega), Array.getElem?_eq_getElem _, fun e he hb => ?_⟩
        · rw [listed_true (by omega)]; simpa [Listed] using h2
        · have h4 : e.on < j := hlo j e.on (edge_iff.2 ⟨ops[j]'(by omega), Array.getElem?_eq_getElem _, e, he, hb, rfl⟩)
          exact Classical.byContradiction fun h5 => h3 e.on h4 h5
      rw [h0] at hjr; cases hjr
    · obtain ⟨h0, o, ho, hedges⟩ := mem_ready.1 hir
      have hilt := (Array.getElem?_eq_some_iff.1 ho).1
      rw [listed_true (by omega)] at h0
      have hed : ∀ j, edge ops.toList i j = true → Listed listed j := by
        intro j hj
        obtain ⟨o', ho', e, he, hb, hon⟩ := edge_iff.1 hj
        rw [ho] at ho'; cases ho'
        rw [← hon]; exact hedges e he hb
      have him : i < m := by
        rcases Nat.lt_or_ge i m with h' | h'
        · exact h'
        · exfalso
          rcases Nat.eq_or_lt_of_le h' with h'' | h''
          · subst h''
            refine hall (fun j hj => ?_)
            have key : ∀ d j, d + j = m → j < m → Listed listed j := by
              intro d
              induction d using Nat.strongRecOn with
              | _ d ihd =>
                intro j hdj hj
                obtain ⟨k, h1, h2, h3⟩ := hcl hilt j hj
                rcases Nat.eq_or_lt_of_le h2 with h4 | h4
                · subst h4; exact hed j h3
                · exact hdn k j (ihd (m - k) (by omega) k (by omega) h4) h3
            exact key (m - j) j (by omega) hj
          · exact hno (i - 1) (by omega) (hed _ (hch i h'' hilt))
      have hol : ops.toList[i]? = some o := by simpa using ho
      obtain ⟨v, hv⟩ : ∃ v, vals[i]? = some v := ⟨vals[i]'(by omega), List.getElem?_eq_getElem _⟩
      have hX : StepX cx n ops (hp listed) (hp (listed.setIfInBounds i true)) K (restr ops.toList o (ovl (ops.toList.take i) (vals.take i) fr)) o v :=
        hstep i o v him hol hv listed hs (by simp [Listed, h0]) hed hdn
      obtain ⟨hdstI, hst⟩ := hX
      have hnl : ¬ Listed listed i := by simp [Listed, h0]
      have hfr : FRel r w n (restr ops.toList o (ovl (ops.toList.take i) (vals.take i) fr)) a := by
        refine ⟨hfl.size, fun t => ?_, fun vs hm => ?_⟩
        case refine_2 =>
          unfold restr at hm
          rcases restr_get (slotsOf ops.toList o) (ovl (ops.toList.take i) (vals.take i) fr) n with h | ⟨h1, h2⟩
          · rw [h] at hm; cases hm
          · rw [h2] at hm
            exact hfl.defs vs (ovlN i (by omega) vs hm)
        unfold restr
        rcases restr_get (slotsOf ops.toList o) (ovl (ops.toList.take i) (vals.take i) fr) t with h | ⟨h1, h2⟩
        · rw [h]; exact .top
        · rw [h2]
          have hro := hread i o t him hol h1
          have hrd : ∀ i', i' < m → dstOf ops.toList i' = some t → (i' < i → edge ops.toList i i' = true) ∧ (i < i' → edge ops.toList i' i = true) := by
            intro i' hi' hd'
            have := allB_mem hro _ (List.mem_map.2 ⟨i', List.mem_range.2 hi', rfl⟩)
            rw [eqDst_iff.2 hd'] at this
            simp only at this
            constructor
            · intro hlt
              rw [lt_blt hlt] at this
              exact this
            · intro hlt
              rw [show Nat.blt i' i = false by cases hbb : Nat.blt i' i with | false => rfl | true => (have := blt_lt hbb; omega), show Nat.beq i' i = false by cases hbb : Nat.beq i' i with | false => rfl | true => (have := Nat.eq_of_beq_eq_true hbb; omega)] at this
              exact this
          rcases ovl_get (ops.toList.take i) (vals.take i) fr t (by simp [hlen]; omega) with ⟨i', o', v', k1, k2, k3, k4⟩ | ⟨k1, k2⟩
          · rw [k4]
            have hi'i : i' < i := by
              rcases Nat.lt_or_ge i' i with h' | h'
              · exact h'
              · rw [List.getElem?_eq_none (by simp; omega)] at k1; cases k1
            rw [List.getElem?_take_of_lt hi'i] at k1 k3
            have hd' : dstOf ops.toList i' = some t := by simp only [dstOf, k1, Option.bind_some, k2]
            exact hfl.done i' t v' (by omega) (hed _ ((hrd i' (by omega) hd').1 hi'i)) hd' k3
          · rw [k2]
            refine hfl.rest t (fun j hj hlj hdj => ?_)
            rcases Nat.lt_trichotomy j i with h' | h' | h'
            · obtain ⟨oj, hoj, hod⟩ := Option.bind_eq_some_iff.1 hdj
              exact k1 j oj (by rw [List.getElem?_take_of_lt h']; exact hoj) hod
            · subst h'; exact hnl hlj
            · exact hnl (hdn j i hlj ((hrd j hj hdj).2 h'))
      have next : ∀ (r' : Rl) (w' : World) (v' : Value), VRel r' w' v' v → Inv cx r' (hp (listed.setIfInBounds i true)) w' → Ext r (hp listed) w r' (hp (listed.setIfInBounds i true)) w' → wpAny cx.P .any ops Q' f (listed.setIfInBounds i true) (a.put o.dst v') w' := by
        intro r' w' v' hv' hi' hx'
        have hun := unl_set (by omega) h0
        refine ih _ r' _ w' (by simpa using hs) (by omega) (fun j l hj he => ?_) (fun j hj hl => ?_) ⟨?_, fun j d u hj hl hdj hu => ?_, fun t ht => ?_, fun vs hm => by rw [Act.put_defers]; exact (hfl.defs vs hm).mono (hx'.grow hi)⟩ hi' (hd.put _ _) (hx.trans hx')
        · rw [listed_set (by omega)] at hj ⊢
          rcases hj with rfl | hj
          · exact .inr (hed l he)
          · exact .inr (hdn j l hj he)
        · rw [listed_set (by omega)] at hl
          rcases hl with rfl | hl
          · omega
          · exact hno j hj hl
        · cases hod : o.dst <;> simp [Act.put, hfl.size]
        · have hg := hx'.grow hi
          rw [listed_set (by omega)] at hl
          by_cases hji : j = i
          · subst hji
            rw [hv] at hu; cases hu
            have hod : o.dst = some d := by simpa [dstOf, hol] using hdj
            rw [hod]
            rw [hod] at hdstI
            simp only [Act.put]
            rw [getD_setIfInBounds (by rw [hfl.size]; exact blt_lt hdstI), if_pos rfl]
            exact hv'
          · have hl' := hl.resolve_left hji
            have hold := (hfl.done j d u hj hl' hdj hu).mono hg
            cases hod : o.dst with
            | none => exact hold
            | some d' =>
              have hne : d' ≠ d := fun e => hji (huniq j i d hj him hdj (by subst e; simp [dstOf, hol, hod]))
              rw [hod] at hdstI
              simp only [Act.put]
              rw [getD_setIfInBounds (by rw [hfl.size]; exact blt_lt hdstI), if_neg hne]
              exact hold
        · have hg := hx'.grow hi
          have hold := (hfl.rest t (fun j hj hl => ht j hj ((listed_set (by omega)).2 (.inr hl)))).mono hg
          have hti := ht i him ((listed_set (by omega)).2 (.inl rfl))
          cases hod : o.dst with
          | none => exact hold
          | some d' =>
            have hne : d' ≠ t := fun e => hti (by subst e; simp [dstOf, hol, hod])
            rw [hod] at hdstI
            simp only [Act.put]
            rw [getD_setIfInBounds (by rw [hfl.size]; exact blt_lt hdstI), if_neg hne]
            exact hold
      unfold wpOp
      simp only [ho]
      rcases hst with ⟨hg, rfl, hσ⟩ | ⟨hg, hgo⟩
      · rw [guardA_wanted (cx := cx) hfr hg]
        simp only [Bool.false_eq_true, if_false]
        exact next r w undef (.tup rfl (fun i h => absurd h (by simp))) (by rw [hσ]; exact hi) (by rw [hσ]; exact Ext.refl _ _ _)
      · rw [guardA_wanted (cx := cx) hfr hg]
        simp only [if_true]
        refine .inl (Oper.wp_mono (fun a' w' h => ?_) (hgo r a w hi hfr Q'))
        obtain ⟨r', v', rfl, h2, h3, h4⟩ := h
        exact next r' w' v' h2 h3 h4
def hp2 (σ σ1 σ2 : Heap) (j1 j2 : Nat) (listed : Array Bool) : Heap := bif listed.getD j2 false then σ2 else bif listed.getD j1 false then σ1 else σ
def runC2 (cx : Cx) (K : List Nat) (n : Nat) (all : Array Oper) (ops : List Oper) (σ σ1 σ2 : Heap) (j1 j2 : Nat) : List Oper → Nat → Fr → List AV → Option (List Prop × List AV × Fr)
  | [], _, fr, rs => some ([], [], fr)
  | o :: r, i, fr, rs => match Nat.beq i j1 with
    | true => match rs with
      | v :: rs => match dstOk n o.dst with
        | true => match guardA all o K (restr ops o fr) with
          | some true => match runC2 cx K n all ops σ σ1 σ2 j1 j2 r (i + 1) (setA o.dst v fr) rs with
            | some (D, vs, fr') => some ((OpSpec cx n (restr ops o fr) σ o v σ1) :: D, v :: vs, fr')
            | none => none
          | _ => none
        | false => none
      | [] => none
    | false => match Nat.beq i j2 with
      | true => match rs with
        | v :: rs => match dstOk n o.dst with
          | true => match guardA all o K (restr ops o fr) with
            | some true => match runC2 cx K n all ops σ σ1 σ2 j1 j2 r (i + 1) (setA o.dst v fr) rs with
              | some (D, vs, fr') => some ((OpSpec cx n (restr ops o fr) σ1 o v σ2) :: D, v :: vs, fr')
              | none => none
            | _ => none
          | false => none
        | [] => none
      | false => match oneD cx K n all σ o (restr ops o fr) rs with
        | some (C, v, rs') => match oneD cx K n all σ1 o (restr ops o fr) rs with
          | some (C1, v1, _) => match oneD cx K n all σ2 o (restr ops o fr) rs with
            | some (C2, v2, _) => forceV v fun v => match runC2 cx K n all ops σ σ1 σ2 j1 j2 r (i + 1) (setA o.dst v fr) rs' with
              | some (D, vs, fr') => some (C ++ (C1 ++ (C2 ++ ((v1 = v) :: (v2 = v) :: D))), v :: vs, fr')
              | none => none
            | none => none
          | none => none
        | none => none
theorem runC2_spec {σ1 σ2 : Heap} {j1 j2 : Nat} {K : List Nat} {all : Array Oper} {ops : List Oper} : ∀ {l : List Oper} {i : Nat} {fr fr' : Fr} {rs vals : List AV} {C : List Prop}, runC2 cx K n all ops σ σ1 σ2 j1 j2 l i fr rs = some (C, vals, fr') → AllP C →
    vals.length = l.length ∧ fr' = ovl l vals fr ∧ ∀ (j : Nat) (o : Oper) (v : AV), l[j]? = some o → vals[j]? = some v →
      (i + j ≠ j1 → i + j ≠ j2 → ∀ s : Heap, s = σ ∨ s = σ1 ∨ s = σ2 → StepX cx n all s s K (restr ops o (ovl (l.take j) (vals.take j) fr)) o v) ∧ (i + j = j1 → StepX cx n all σ σ1 K (restr ops o (ovl (l.take j) (vals.take j) fr)) o v) ∧ (i + j = j2 → i + j ≠ j1 → StepX cx n all σ1 σ2 K (restr ops o (ovl (l.take j) (vals.take j) fr)) o v)
  | [], i, fr, fr', rs, vals, C, h, hC => by
    simp only [runC2, Option.some.injEq, Prod.mk.injEq] at h
    obtain ⟨rfl, rfl, rfl⟩ := h
    exact ⟨rfl, rfl, fun j o v h => by simp at h⟩
  | o :: l, i, fr, fr', rs, vals, C, h, hC => by
    simp only [runC2] at h
    split at h
    · rename_i hb
      have hij : i = j1 := Nat.eq_of_beq_eq_true hb
      split at h
      case h_2 => cases h
      rename_i v rs'
      split at h
      case h_2 => cases h
      rename_i hds
      split at h
      case h_2 => cases h
      rename_i hg
      split at h
      case h_2 => cases h
      rename_i D vs fr1 h2
      simp only [Option.some.injEq, Prod.mk.injEq] at h
      obtain ⟨rfl, rfl, rfl⟩ := h
      obtain ⟨hsp, hD⟩ := hC
      obtain ⟨k1, k2, k3⟩ := runC2_spec h2 hD
      refine ⟨by simp [k1], by rw [k2]; rfl, fun j oj vj hj hvj => ?_⟩
      cases j with
      | zero =>
        simp only [List.getElem?_cons_zero, Option.some.injEq] at hj hvj
        subst hj; subst hvj
        exact ⟨fun h => absurd hij h, fun _ => specC_step hds hg hsp, fun _ h => absurd hij h⟩
      | succ j =>
        simp only [List.getElem?_cons_succ] at hj hvj
        have := k3 j oj vj hj hvj
        rw [show i + 1 + j = i + (j + 1) by omega] at this
        exact this
    · rename_i hb
      have hij : i ≠ j1 := fun e => by rw [e, Nat.beq_refl] at hb; cases hb
      split at h
      · rename_i hb2
        have hij2 : i = j2 := Nat.eq_of_beq_eq_true hb2
        split at h
        case h_2 => cases h
        rename_i v rs'
        split at h
        case h_2 => cases h
        rename_i hds
        split at h
        case h_2 => cases h
        rename_i hg
        split at h
        case h_2 => cases h
        rename_i D vs fr1 h2
        simp only [Option.some.injEq, Prod.mk.injEq] at h
        obtain ⟨rfl, rfl, rfl⟩ := h
        obtain ⟨hsp, hD⟩ := hC
        obtain ⟨k1, k2, k3⟩ := runC2_spec h2 hD
        refine ⟨by simp [k1], by rw [k2]; rfl, fun j oj vj hj hvj => ?_⟩
        cases j with
        | zero =>
          simp only [List.getElem?_cons_zero, Option.some.injEq] at hj hvj
          subst hj; subst hvj
          exact ⟨fun _ h => absurd hij2 h, fun h => absurd h hij, fun _ _ => specC_step hds hg hsp⟩
        | succ j =>
          simp only [List.getElem?_cons_succ] at hj hvj
          have := k3 j oj vj hj hvj
          rw [show i + 1 + j = i + (j + 1) by omega] at this
          exact this
      · rename_i hb2
        have hij2 : i ≠ j2 := fun e => by rw [e, Nat.beq_refl] at hb2; cases hb2
        split at h
        case h_2 => cases h
        rename_i C1 v rs' h1
        split at h
        case h_2 => cases h
        rename_i C1' v' _ h1'
        split at h
        case h_2 => cases h
        rename_i C1'' v'' _ h1''
        rw [forceV_eq] at h
        split at h
        case h_2 => cases h
        rename_i D vs fr1 h2
        simp only [Option.some.injEq, Prod.mk.injEq] at h
        obtain ⟨rfl, rfl, rfl⟩ := h
        obtain ⟨hC1, hD1⟩ := AllP_append hC
        obtain ⟨hC1', hD2⟩ := AllP_append hD1
        obtain ⟨hC1'', hD3⟩ := AllP_append hD2
        obtain ⟨hv, hv', hD⟩ := hD3
        subst hv
        subst hv'
        obtain ⟨k1, k2, k3⟩ := runC2_spec h2 hD
        refine ⟨by simp [k1], by rw [k2]; rfl, fun j oj vj hj hvj => ?_⟩
        cases j with
        | zero =>
          simp only [List.getElem?_cons_zero, Option.some.injEq] at hj hvj
          subst hj; subst hvj
          refine ⟨fun _ _ s hs => ?_, fun h => absurd h hij, fun h _ => absurd h hij2⟩
          rcases hs with rfl | rfl | rfl
          · exact (oneD_spec h1 hC1).x
          · exact (oneD_spec h1' hC1').x
          · exact (oneD_spec h1'' hC1'').x
        | succ j =>
          simp only [List.getElem?_cons_succ] at hj hvj
          have := k3 j oj vj hj hvj
          rw [show i + 1 + j = i + (j + 1) by omega] at this
          exact this
theorem S_drawC2 {id : Nat} (σ1 σ2 : Heap) (j1 j2 : Nat) {ops : Array Oper} {vals : List AV} {C : List Prop} {fr' : Fr} (m : Nat) (K : List Nat) (rs : List AV) (hP : cx.P.follows .mixedOrders = true) (hchk : drawOk ops.toList m = true) (hmN : Nat.ble m ops.size = true) (hj : Nat.blt j1 j2 = true) (hj2 : Nat.blt j2 m = true) (hedge : edge ops.toList j2 j1 = true)
    (hrun : normC (runC2 cx K n ops ops.toList σ σ1 σ2 j1 j2 (ops.toList.take m) 0 fr rs) = some (C, vals, fr')) (hC : AllP C)
    (hk : S cx n B (.ops ops (ops.toList.drop m) [] :: k) Q fr' σ2) : S cx n B (.code (.region id ops true) :: k) Q fr σ := by
  intro r a w hi hf hd hx
  rw [normC_eq] at hrun
  obtain ⟨c1, c2, c3, c4, c5⟩ := drawOk_spec hchk
  obtain ⟨k1, k2, k3⟩ := runC2_spec hrun hC
  have hmN' := Nat.le_of_ble_eq_true hmN
  have hjlt := blt_lt hj
  have hjlt2 := blt_lt hj2
  have hlen : vals.length = m := by rw [k1]; simp; omega
  obtain ⟨hi1, hx1⟩ := hi.heap_eq (w' := { w with drawn := w.drawn + 1 }) rfl rfl rfl rfl
  have hf1 := hf.mono (hx1.grow hi)
  have nl : ∀ {j : Nat}, ¬ Listed (Array.replicate ops.size false) j := by
    intro j hj
    unfold Listed at hj
    rw [Array.getD_eq_getD_getElem?, Array.getElem?_replicate] at hj
    split at hj <;> simp at hj
  have nlF : ∀ {j : Nat}, (Array.replicate ops.size false).getD j false = false := by
    intro j
    cases hb : (Array.replicate ops.size false).getD j false with
    | false => rfl
    | true => exact absurd hb nl
  have h0 : hp2 σ σ1 σ2 j1 j2 (Array.replicate ops.size false) = σ := by unfold hp2; rw [nlF, nlF]; rfl
  have hgs : ∀ (listed : Array Bool) (i j : Nat), i < listed.size → (listed.setIfInBounds i true).getD j false = if j = i then true else listed.getD j false := by
    intro listed i j hil
    simp only [Array.getD_eq_getD_getElem?, Array.getElem?_setIfInBounds]
    by_cases h : i = j
    · subst h; simp [hil]
    · rw [if_neg h, if_neg (Ne.symm h)]
  have hstep : ∀ (j : Nat) o v, j < m → ops.toList[j]? = some o → vals[j]? = some v → ∀ listed : Array Bool, listed.size = ops.size → ¬ Listed listed j → (∀ i, edge ops.toList j i = true → Listed listed i) → Down ops.toList listed → StepX cx n ops (hp2 σ σ1 σ2 j1 j2 listed) (hp2 σ σ1 σ2 j1 j2 (listed.setIfInBounds j true)) K (restr ops.toList o (ovl (ops.toList.take j) (vals.take j) fr)) o v := by
    intro j o v hjm ho hv listed hs hnl hed hdn
    have h := k3 j o v (by rw [List.getElem?_take_of_lt hjm]; exact ho) hv
    rw [List.take_take, Nat.min_eq_left (by omega), Nat.zero_add] at h
    have hnlF : listed.getD j false = false := by
      cases hb : listed.getD j false with
      | false => rfl
      | true => exact absurd hb hnl
    by_cases e1 : j = j1
    · subst e1
      have hn2 : listed.getD j2 false = false := by
        cases hb : listed.getD j2 false with
        | false => rfl
        | true => exact absurd (hdn j2 j hb hedge) hnl
      have a1 : hp2 σ σ1 σ2 j j2 listed = σ := by unfold hp2; rw [hn2, hnlF]; rfl
      have a2 : hp2 σ σ1 σ2 j j2 (listed.setIfInBounds j true) = σ1 := by
        unfold hp2
        rw [hgs _ _ _ (by omega), hgs _ _ _ (by omega), if_neg (by omega), hn2, if_pos rfl]; rfl
      rw [a1, a2]
      exact h.2.1 rfl
    · by_cases e2 : j = j2
      · subst e2
        have hl1 : listed.getD j1 false = true := hed j1 hedge
        have a1 : hp2 σ σ1 σ2 j1 j listed = σ1 := by unfold hp2; rw [hnlF, hl1]; rfl
        have a2 : hp2 σ σ1 σ2 j1 j (listed.setIfInBounds j true) = σ2 := by
          unfold hp2
          rw [hgs _ _ _ (by omega), if_pos rfl]; rfl
        rw [a1, a2]
        exact h.2.2 rfl e1
      · have a1 : hp2 σ σ1 σ2 j1 j2 (listed.setIfInBounds j true) = hp2 σ σ1 σ2 j1 j2 listed := by
          unfold hp2
          rw [hgs _ _ _ (by omega), hgs _ _ _ (by omega), if_neg (Ne.symm e2), if_neg (Ne.symm e1)]
        rw [a1]
        refine h.1 e1 e2 _ ?_
        unfold hp2
        cases listed.getD j2 false <;> cases listed.getD j1 false
        · exact .inl rfl
        · exact .inr (.inl rfl)
        · exact .inr (.inr rfl)
        · exact .inr (.inr rfl)
  refine wp_region_any hP ?_
  refine wpAny_frontG (σ' := σ2) (hp := hp2 σ σ1 σ2 j1 j2) (cx := cx) (n := n) (B := B) (fr := fr) (m := m) (vals := vals) (K := K) hmN' hlen c1 c2 c3 c4 c5 (fun listed hall => ?_) (fun j o hjm ho => ?_) hstep (fun r a w hi hf hd hx => ?_) ops.size _ r a _ (by simp) ?_ (fun j i hj => ?_) (fun j _ => ?_) ⟨hf1.size, fun j d v _ hj => ?_, fun t _ => hf1.get t, hf1.defs⟩ (by rw [h0]; exact hi1) hd (by rw [h0]; exact hx.trans hx1)
  · have : listed.getD j2 false = true := hall j2 hjlt2
    unfold hp2; rw [this]; rfl
  · obtain ⟨v, hv⟩ : ∃ v, vals[j]? = some v := ⟨vals[j]'(by omega), List.getElem?_eq_getElem _⟩
    have h := k3 j o v (by rw [List.getElem?_take_of_lt hjm]; exact ho) hv
    rw [Nat.zero_add] at h
    by_cases e1 : j = j1
    · exact (h.2.1 e1).1
    · by_cases e2 : j = j2
      · exact (h.2.2 e2 e1).1
      · exact (h.1 e1 e2 σ (.inl rfl)).1
  · rw [k2] at hk
    exact hk r a w hi hf hd hx
  · unfold unl; simp [List.countP_replicate]
  · exact absurd hj nl
  · exact nl
  · exact absurd hj nl
theorem OpSpec.aop {σ' : Heap} {o : Oper} {C : List Prop} {v : AV} (h : aOp cx [] o.dst o.op fr σ = some (C, v, σ')) (hC : AllP C) : OpSpec cx n fr σ o v σ' := fun r a w hi hf => aOp_run hi hf h hC
end
end Go.Ab
end
section
set_option linter.unusedVariables false
set_option linter.unusedSimpArgs false
namespace Go.Ab
open Go
section
variable {cx : Cx} {n : Nat} {B : Bs} {k : List AI} {Q : Post} {fr : Fr} {σ : Heap}
def hp1 (σ σ1 : Heap) (j1 : Nat) (listed : Array Bool) : Heap := bif listed.getD j1 false then σ1 else σ
def chgW (cx : Cx) (n : Nat) (σ σ1 : Heap) (o : Oper) (fr : Fr) (v : AV) : Prop := match callA cx fr o.op with
  | some (f, args) => CallOk cx f args σ (fun out s => out = .ret v ∧ s = σ1)
  | none => OpSpec cx n fr σ o v σ1
def runW (cx : Cx) (K : List Nat) (n : Nat) (all : Array Oper) (ops : List Oper) (σ σ1 : Heap) (j1 : Nat) : List Oper → Nat → Fr → List AV → Option (List Prop × List AV × Fr)
  | [], _, fr, rs => some ([], [], fr)
  | o :: r, i, fr, rs => match Nat.beq i j1 with
    | true => match rs with
      | v :: rs => match dstOk n o.dst with
        | true => match guardA all o K (restr ops o fr) with
          | some true => match runW cx K n all ops σ σ1 j1 r (i + 1) (setA o.dst v fr) rs with
            | some (D, vs, fr') => some (chgW cx n σ σ1 o (restr ops o fr) v :: D, v :: vs, fr')
            | none => none
          | _ => none
        | false => none
      | [] => none
    | false => match edge ops i j1 with
      | true => match oneD cx K n all σ1 o (restr ops o fr) rs with
        | some (C, v, rs') => forceV v fun v => match runW cx K n all ops σ σ1 j1 r (i + 1) (setA o.dst v fr) rs' with
          | some (D, vs, fr') => some (C ++ D, v :: vs, fr')
          | none => none
        | none => none
      | false => match edge ops j1 i with
        | true => match oneD cx K n all σ o (restr ops o fr) rs with
          | some (C, v, rs') => forceV v fun v => match runW cx K n all ops σ σ1 j1 r (i + 1) (setA o.dst v fr) rs' with
            | some (D, vs, fr') => some (C ++ D, v :: vs, fr')
            | none => none
          | none => none
        | false => match oneD cx K n all σ o (restr ops o fr) rs with
          | some (C, v, rs') => match oneD cx K n all σ1 o (restr ops o fr) rs with
            | some (C1, v1, _) => forceV v fun v => match runW cx K n all ops σ σ1 j1 r (i + 1) (setA o.dst v fr) rs' with
              | some (D, vs, fr') => some (C ++ (C1 ++ ((v1 = v) :: D)), v :: vs, fr')
              | none => none
            | none => none
          | none => none
theorem chgW_step {σ1 : Heap} {K : List Nat} {all : Array Oper} {o : Oper} {v : AV} (hd : dstOk n o.dst = true) (hg : guardA all o K fr = some true) (h : chgW cx n σ σ1 o fr v) : StepX cx n all σ σ1 K fr o v := by
  unfold chgW at h
  split at h
  · rename_i f args hc
    exact callC_step hd hg hc h
  · exact specC_step hd hg h
theorem runW_spec {σ1 : Heap} {j1 : Nat} {K : List Nat} {all : Array Oper} {ops : List Oper} : ∀ {l : List Oper} {i : Nat} {fr fr' : Fr} {rs vals : List AV} {C : List Prop}, runW cx K n all ops σ σ1 j1 l i fr rs = some (C, vals, fr') → AllP C →
    vals.length = l.length ∧ fr' = ovl l vals fr ∧ ∀ (j : Nat) (o : Oper) (v : AV), l[j]? = some o → vals[j]? = some v →
      (i + j ≠ j1 → ∀ b : Bool, (edge ops (i + j) j1 = true → b = true) → (edge ops j1 (i + j) = true → b = false) → StepX cx n all (bif b then σ1 else σ) (bif b then σ1 else σ) K (restr ops o (ovl (l.take j) (vals.take j) fr)) o v) ∧
      (i + j = j1 → StepX cx n all σ σ1 K (restr ops o (ovl (l.take j) (vals.take j) fr)) o v)
  | [], i, fr, fr', rs, vals, C, h, hC => by
    simp only [runW, Option.some.injEq, Prod.mk.injEq] at h
    obtain ⟨rfl, rfl, rfl⟩ := h
    exact ⟨rfl, rfl, fun j o v h => by simp at h⟩
  | o :: l, i, fr, fr', rs, vals, C, h, hC => by
    have next : ∀ {v : AV} {vs : List AV} {fr1 : Fr} {D : List Prop} {rs' : List AV}, runW cx K n all ops σ σ1 j1 l (i + 1) (setA o.dst v fr) rs' = some (D, vs, fr1) → AllP D →
        ((i ≠ j1 → ∀ b : Bool, (edge ops i j1 = true → b = true) → (edge ops j1 i = true → b = false) → StepX cx n all (bif b then σ1 else σ) (bif b then σ1 else σ) K (restr ops o fr) o v) ∧ (i = j1 → StepX cx n all σ σ1 K (restr ops o fr) o v)) →
        (v :: vs).length = (o :: l).length ∧ fr1 = ovl (o :: l) (v :: vs) fr ∧ ∀ (j : Nat) (o' : Oper) (v' : AV), (o :: l)[j]? = some o' → (v :: vs)[j]? = some v' →
          (i + j ≠ j1 → ∀ b : Bool, (edge ops (i + j) j1 = true → b = true) → (edge ops j1 (i + j) = true → b = false) → StepX cx n all (bif b then σ1 else σ) (bif b then σ1 else σ) K (restr ops o' (ovl ((o :: l).take j) ((v :: vs).take j) fr)) o' v') ∧
          (i + j = j1 → StepX cx n all σ σ1 K (restr ops o' (ovl ((o :: l).take j) ((v :: vs).take j) fr)) o' v') := by
      intro v vs fr1 D rs' h2 hD h0
      obtain ⟨k1, k2, k3⟩ := runW_spec h2 hD
      refine ⟨by simp [k1], by rw [k2]; rfl, fun j oj vj hj hvj => ?_⟩
      cases j with
      | zero =>
        simp only [List.getElem?_cons_zero, Option.some.injEq] at hj hvj
        subst hj; subst hvj
        exact h0
      | succ j =>
        simp only [List.getElem?_cons_succ] at hj hvj
        have := k3 j oj vj hj hvj
        rw [show i + 1 + j = i + (j + 1) by omega] at this
        exact this
    simp only [runW] at h
    split at h
    · rename_i hb
      have hij : i = j1 := Nat.eq_of_beq_eq_true hb
      split at h
      case h_2 => cases h
      split at h
      case h_2 => cases h
      rename_i hds
      split at h
      case h_2 => cases h
      rename_i hg
      split at h
      case h_2 => cases h
      rename_i h2
      simp only [Option.some.injEq, Prod.mk.injEq] at h
      obtain ⟨rfl, rfl, rfl⟩ := h
      exact next h2 hC.2 ⟨fun h => absurd hij h, fun _ => chgW_step hds hg hC.1⟩
    · rename_i hb
      have hij : i ≠ j1 := fun e => by rw [e, Nat.beq_refl] at hb; cases hb
      split at h
      · rename_i he
        split at h
        case h_2 => cases h
        rename_i C1 v rs' h1
        rw [forceV_eq] at h
        split at h
        case h_2 => cases h
        rename_i h2
        simp only [Option.some.injEq, Prod.mk.injEq] at h
        obtain ⟨rfl, rfl, rfl⟩ := h
        obtain ⟨hC1, hD⟩ := AllP_append hC
        refine next h2 hD ⟨fun _ b hb1 _ => ?_, fun h => absurd h hij⟩
        rw [hb1 he]
        exact (oneD_spec h1 hC1).x
      · split at h
        · rename_i he
          split at h
          case h_2 => cases h
          rename_i C1 v rs' h1
          rw [forceV_eq] at h
          split at h
          case h_2 => cases h
          rename_i h2
          simp only [Option.some.injEq, Prod.mk.injEq] at h
          obtain ⟨rfl, rfl, rfl⟩ := h
          obtain ⟨hC1, hD⟩ := AllP_append hC
          refine next h2 hD ⟨fun _ b _ hb2 => ?_, fun h => absurd h hij⟩
          rw [hb2 he]
          exact (oneD_spec h1 hC1).x
        · split at h
          case h_2 => cases h
          rename_i C1 v rs' h1
          split at h
          case h_2 => cases h
          rename_i C1' v' _ h1'
          rw [forceV_eq] at h
          split at h
          case h_2 => cases h
          rename_i h2
          simp only [Option.some.injEq, Prod.mk.injEq] at h
          obtain ⟨rfl, rfl, rfl⟩ := h
          obtain ⟨hC1, hD1⟩ := AllP_append hC
          obtain ⟨hC1', hv, hD⟩ := AllP_append hD1
          subst hv
          refine next h2 hD ⟨fun _ b _ _ => ?_, fun h => absurd h hij⟩
          cases b with
          | true => exact (oneD_spec h1' hC1').x
          | false => exact (oneD_spec h1 hC1).x
theorem S_drawW {id : Nat} (σ1 : Heap) (j1 : Nat) {ops : Array Oper} {vals : List AV} {C : List Prop} {fr' : Fr} (m : Nat) (K : List Nat) (rs : List AV) (hP : cx.P.follows .mixedOrders = true) (hchk : drawOk ops.toList m = true) (hmN : Nat.ble m ops.size = true) (hj : Nat.blt j1 m = true)
    (hrun : normC (runW cx K n ops ops.toList σ σ1 j1 (ops.toList.take m) 0 fr rs) = some (C, vals, fr')) (hC : AllP C)
    (hk : S cx n B (.ops ops (ops.toList.drop m) [] :: k) Q fr' σ1) : S cx n B (.code (.region id ops true) :: k) Q fr σ := by
  intro r a w hi hf hd hx
  rw [normC_eq] at hrun
  obtain ⟨c1, c2, c3, c4, c5⟩ := drawOk_spec hchk
  obtain ⟨k1, k2, k3⟩ := runW_spec hrun hC
  have hmN' := Nat.le_of_ble_eq_true hmN
  have hjlt := blt_lt hj
  have hlen : vals.length = m := by rw [k1]; simp; omega
  obtain ⟨hi1, hx1⟩ := hi.heap_eq (w' := { w with drawn := w.drawn + 1 }) rfl rfl rfl rfl
  have hf1 := hf.mono (hx1.grow hi)
  have nl : ∀ {j : Nat}, ¬ Listed (Array.replicate ops.size false) j := by
    intro j hj
    unfold Listed at hj
    rw [Array.getD_eq_getD_getElem?, Array.getElem?_replicate] at hj
    split at hj <;> simp at hj
  have nlF : ∀ {j : Nat}, (Array.replicate ops.size false).getD j false = false := by
    intro j
    cases hb : (Array.replicate ops.size false).getD j false with
    | false => rfl
    | true => exact absurd hb nl
  have h0 : hp1 σ σ1 j1 (Array.replicate ops.size false) = σ := by unfold hp1; rw [nlF]; rfl
  have hgs : ∀ (listed : Array Bool) (i j : Nat), i < listed.size → (listed.setIfInBounds i true).getD j false = if j = i then true else listed.getD j false := by
    intro listed i j hil
    simp only [Array.getD_eq_getD_getElem?, Array.getElem?_setIfInBounds]
    by_cases h : i = j
    · subst h; simp [hil]
    · rw [if_neg h, if_neg (Ne.symm h)]
  have hstep : ∀ (j : Nat) o v, j < m → ops.toList[j]? = some o → vals[j]? = some v → ∀ listed : Array Bool, listed.size = ops.size → ¬ Listed listed j → (∀ i, edge ops.toList j i = true → Listed listed i) → Down ops.toList listed →
      StepX cx n ops (hp1 σ σ1 j1 listed) (hp1 σ σ1 j1 (listed.setIfInBounds j true)) K (restr ops.toList o (ovl (ops.toList.take j) (vals.take j) fr)) o v := by
    intro j o v hjm ho hv listed hs hnl hed hdn
    have h := k3 j o v (by rw [List.getElem?_take_of_lt hjm]; exact ho) hv
    rw [List.take_take, Nat.min_eq_left (by omega), Nat.zero_add] at h
    have hnlF : listed.getD j false = false := by
      cases hb : listed.getD j false with
      | false => rfl
      | true => exact absurd hb hnl
    by_cases e1 : j = j1
    · subst e1
      have a1 : hp1 σ σ1 j listed = σ := by unfold hp1; rw [hnlF]; rfl
      have a2 : hp1 σ σ1 j (listed.setIfInBounds j true) = σ1 := by
        unfold hp1
        rw [hgs _ _ _ (by omega), if_pos rfl]; rfl
      rw [a1, a2]
      exact h.2 rfl
    · have a1 : hp1 σ σ1 j1 (listed.setIfInBounds j true) = hp1 σ σ1 j1 listed := by
        unfold hp1
        rw [hgs _ _ _ (by omega), if_neg (Ne.symm e1)]
      rw [a1]
      unfold hp1
      refine h.1 e1 _ (fun he => hed j1 he) (fun he => ?_)
      cases hb : listed.getD j1 false with
      | false => rfl
      | true => exact absurd (hdn j1 j hb he) hnl
  refine wp_region_any hP ?_
  refine wpAny_frontG (σ' := σ1) (hp := hp1 σ σ1 j1) (cx := cx) (n := n) (B := B) (fr := fr) (m := m) (vals := vals) (K := K) hmN' hlen c1 c2 c3 c4 c5 (fun listed hall => ?_) (fun j o hjm ho => ?_) hstep (fun r a w hi hf hd hx => ?_) ops.size _ r a _ (by simp) ?_ (fun j i hj => ?_) (fun j _ => ?_) ⟨hf1.size, fun j d v _ hj => ?_, fun t _ => hf1.get t, hf1.defs⟩ (by rw [h0]; exact hi1) hd (by rw [h0]; exact hx.trans hx1)
  · have : listed.getD j1 false = true := hall j1 hjlt
    unfold hp1; rw [this]; rfl
  · obtain ⟨v, hv⟩ : ∃ v, vals[j]? = some v := ⟨vals[j]'(by omega), List.getElem?_eq_getElem _⟩
    have h := k3 j o v (by rw [List.getElem?_take_of_lt hjm]; exact ho) hv
    rw [Nat.zero_add] at h
    by_cases e1 : j = j1
    · exact (h.2 e1).1
    · cases he : edge ops.toList j j1 with
      | true => exact (h.1 e1 true (fun _ => rfl) (fun e => by have := c4 _ _ he; have := c4 _ _ e; omega)).1
      | false => exact (h.1 e1 false (fun e => by rw [he] at e; cases e) (fun _ => rfl)).1
  · rw [k2] at hk
    exact hk r a w hi hf hd hx
  · unfold unl; simp [List.countP_replicate]
  · exact absurd hj nl
  · exact nl
  · exact absurd hj nl
end
end Go.Ab
end
section
set_option linter.unusedVariables false
set_option linter.unusedSimpArgs false
set_option maxRecDepth 20000
set_option maxHeartbeats 4000000
namespace Go.Proofs.YtgmakmfdjhgjlaaGreatDoor
open Go Go.Ab
def mcC (a b c e : Nat) (n : Nat) (m : Mc) : List AV := [.map 0 a, .ms 4 e 0 n 1 false, .map 1 b, .map 2 c, .int .i64 (m.pc : Nat), .int .i64 (m.left : Nat), .int .i64 (m.code : Nat), .bool m.done]
def regX (m : Mc) : Option Box := mapBx m.ks fun k => .str (m.regs k)
def mcH (a b c d e : Nat) (fs : List Fil) (m : Mc) (τ : Heap) : Heap :=
  (a, mapBx (fs.map Fil.path) (vaP fs)) :: (b, mapBx (ksP m.made) (vaP m.made)) :: (c, regX m) :: (d, some (.cells (mcC a b c e fs.length m) ⟨false, some 54⟩)) :: (e, some (.cells (texts (fs.map Fil.path)) ⟨false, none⟩)) :: τ
theorem mapX_rn (ids : List Nat) (ks : List (List UInt8)) (f : List UInt8 → AV) (hf : ∀ k, Free false (f k)) (v : Nat) : RnE ids (v, mapBx ks f) (v, mapBx ks f) :=
  .live (.map rfl fun i h1 h2 => by simp only [mapF, List.getElem_map]; exact ⟨.free .str, .free (hf _)⟩)
theorem vaP_free {st : Bool} (l : List Fil) (k : List UInt8) : Free st (vaP l k) := filA_free _
theorem mcH_rn (a b c d e : Nat) (fs : List Fil) (m : Mc) : RnH (List.range 5) (mcH a b c d e fs m []) (mcH a b c d e fs m []) :=
  .cons (mapX_rn _ _ _ (vaP_free _) _) (.cons (mapX_rn _ _ _ (vaP_free _) _) (.cons (mapX_rn _ _ _ (fun _ => .str) _)
    (.cons (.live (.cells (.cons (.map rfl) (.cons (.ms rfl) (.cons (.map rfl) (.cons (.map rfl) (.free (by intro x hx; simp at hx; rcases hx with rfl | rfl | rfl | rfl; exact .int; exact .int; exact .int; exact .bool))))))))
      (.cons (.live (.cells (.free (texts_any _)))) (.nil _)))))
theorem mapX_low {k : Nat} {ks : List (List UInt8)} {f : List UInt8 → AV} (hf : ∀ k, Free false (f k)) {x : Box} (h : mapBx ks f = some x) : LowBox k x := by
  cases h
  refine .map fun p hp => ?_
  unfold mapF at hp
  obtain ⟨t, _, rfl⟩ := List.mem_map.1 hp
  exact ⟨.str, Low.free (hf t)⟩
theorem mcH_low (a b c d e : Nat) (fs : List Fil) (m : Mc) (τ : Heap) : LowH 5 (mcH a b c d e fs m τ) := by
  intro id ver x hid hx
  match id, hid with
  | 0, _ => exact mapX_low (vaP_free _) (by cases hx; rfl)
  | 1, _ => exact mapX_low (vaP_free _) (by cases hx; rfl)
  | 2, _ => exact mapX_low (ks := m.ks) (f := fun k => .str (m.regs k)) (fun _ => .str) (by cases hx; rfl)
  | 3, _ =>
    cases hx
    refine .cells fun y hy => ?_
    simp only [mcC, List.mem_cons, List.not_mem_nil, or_false] at hy
    rcases hy with rfl | rfl | rfl | rfl | rfl | rfl | rfl | rfl
    · exact .map (by decide)
    · exact .ms (by decide)
    · exact .map (by decide)
    · exact .map (by decide)
    · exact .int
    · exact .int
    · exact .int
    · exact .bool
  | 4, _ =>
    cases hx
    exact .cells fun y hy => Low.free (st := false) (texts_any _ y hy)
theorem mcH_tail {f : FuncId} {args : List AV} {x : AV} {a b c d e : Nat} {fs : List Fil} {m m' : Mc} (τ : Heap) (h : CallOk cx f (.ptr 3 d 0 :: args) (mcH a b c d e fs m []) (fun o s => o = .ret x ∧ s = mcH a b c d e fs m' []))
    (ha : ∀ y ∈ args, Free false y) (hx : Free false x) : CallOk cx f (.ptr 3 d 0 :: args) (mcH a b c d e fs m τ) (fun o s => o = .ret x ∧ s = mcH a b c d e fs m' τ) :=
  h.pre1 5 τ rfl rfl (.cons (.ptr rfl) (.free ha)) (mcH_rn ..) (mcH_rn ..) (.free hx)
def burnM (n : Nat) (m : Mc) : Mc := if m.left < n then endM 104 { m with left := 0 } else { m with left := m.left - n }
theorem end_ok (a b c d e : Nat) (fs : List Fil) (m : Mc) (k : Nat) (τ : Heap) : CallOk cx 62 [.ptr 3 d 0, .int .i64 (k : Nat)] (mcH a b c d e fs m τ) (fun o s => o = .ret (.tup []) ∧ s = mcH a b c d e fs (endM k m) τ) :=
  mcH_tail τ (callOk_intro (fun a w => Tryz.call62 a w) Tryz.func62 rfl Tryz.ntmps62 rfl fun B => by
    refine pB [] rfl ?_
    exact S_nil ⟨_, _, rfl, trivial, rfl, rfl⟩) (by intro x hx; simp at hx; subst hx; exact .int) (.tup (by simp))
theorem burn_ok (a b c d e : Nat) (fs : List Fil) (m : Mc) (n : Nat) (hn : n ≤ 1000000) (hm : m.left ≤ 100000) (τ : Heap) :
    CallOk cx 61 [.ptr 3 d 0, .int .i64 (n : Nat)] (mcH a b c d e fs m τ) (fun o s => o = .ret (.bool (decide (n ≤ m.left))) ∧ s = mcH a b c d e fs (burnM n m) τ) :=
  mcH_tail τ (callOk_intro (fun a w => Tryz.call61 a w) Tryz.func61 rfl Tryz.ntmps61 rfl fun B => by
    unfold burnM
    by_cases h : m.left < n
    · rw [if_pos h, decide_eq_false (by omega)]
      refine pa [.b true, .f (.tup []) (fun _ => mcH a b c d e fs (endM 104 { m with left := 0 }) [])] rfl ?_ ?_
      · (repeat' with_reducible apply AllP_cons) <;> try exact aC
        · exact end_ok a b c d e fs { m with left := 0 } 104 []
      exact S_ret ⟨_, _, rfl, trivial, rfl, rfl⟩
    · rw [if_neg h, decide_eq_true (by omega)]
      refine pB [.b false] rfl ?_
      refine S_ret ⟨_, _, rfl, trivial, rfl, ?_⟩
      have hw : IntKind.i64.wrap ((m.left : Int) - (n : Int)) = ((m.left - n : Nat) : Int) := by rw [IntWalk.i64_in _ ⟨by omega, by omega⟩]; omega
      show [_, _, _, (d, some (Box.cells [_, _, _, _, _, .int .i64 (IntKind.i64.wrap ((m.left : Int) - (n : Int))), _, _] _)), _] = _
      rw [hw]; rfl) (by intro x hx; simp at hx; subst hx; exact .int) .bool
theorem trip_ok (a b c d e : Nat) (fs : List Fil) (m : Mc) (k : Nat) (hm : m.left ≤ 100000) (τ : Heap) :
    CallOk cx 44 [.ptr 3 d 0, .int .i64 (k : Nat)] (mcH a b c d e fs m τ) (fun o s => o = .ret (.tup []) ∧ s = mcH a b c d e fs (tripM k m) τ) :=
  mcH_tail τ (callOk_intro (fun a w => Tryz.call44 a w) Tryz.func44 rfl Tryz.ntmps44 rfl fun B => by
    have hB := burn_ok a b c d e fs m 1 (by omega) hm []
    unfold burnM at hB
    unfold tripM
    by_cases h : m.left < 1
    · rw [if_pos h] at hB ⊢
      rw [decide_eq_false (by omega)] at hB
      refine pB [.f (.bool false) (fun _ => mcH a b c d e fs (endM 104 { m with left := 0 }) []), .b false] rfl ?_
      exact S_nil ⟨_, _, rfl, trivial, rfl, rfl⟩
    · rw [if_neg h] at hB ⊢
      rw [decide_eq_true (by omega)] at hB
      refine pa [.f (.bool true) (fun _ => mcH a b c d e fs { m with left := m.left - 1 } []), .b true, .f (.tup []) (fun _ => mcH a b c d e fs (endM k { m with left := m.left - 1 }) [])] rfl ?_ ?_
      · (repeat' with_reducible apply AllP_cons) <;> try exact aC
        · exact end_ok a b c d e fs { m with left := m.left - 1 } k []
      exact S_nil ⟨_, _, rfl, trivial, rfl, rfl⟩) (by intro x hx; simp at hx; subst hx; exact .int) (.tup (by simp))
end Go.Proofs.YtgmakmfdjhgjlaaGreatDoor
end
section
set_option linter.unusedVariables false
set_option linter.unusedSimpArgs false
set_option maxRecDepth 20000
set_option maxHeartbeats 4000000
namespace Go.Proofs.YtgmakmfdjhgjlaaGreatDoor
open Go Go.Ab
theorem keep_ok (a b c d e : Nat) (fs : List Fil) (m : Mc) (t : List UInt8) (g : FuncId) (caps : List AV) (k : Mc → Mc) (τ : Heap) (hm : m.left ≤ 100000) (ht : t.length ≤ 10000000)
    (hk : CallOk cx g ([] ++ [] ++ caps) (mcH a b c d e fs { m with left := m.left - (1 + t.length / 16) } τ) (fun o s => o = .ret (.tup []) ∧ s = mcH a b c d e fs (k { m with left := m.left - (1 + t.length / 16) }) τ)) :
    CallOk cx 81 [.ptr 3 d 0, .str t, .func (.func g) [] caps] (mcH a b c d e fs m τ) (fun o s => o = .ret (.tup []) ∧ s = mcH a b c d e fs (keepM t k m) τ) :=
  callOk_intro (fun a w => Tryz.call81 a w) Tryz.func81 rfl Tryz.ntmps81 rfl fun B => by
    unfold keepM
    by_cases h1 : 100000 < t.length
    · rw [if_pos h1]
      refine pas [.b true, .f (.tup []) (fun _ => mcH a b c d e fs (tripM 102 m) τ)] rfl ?_ ?_
      · (repeat' with_reducible apply AllP_cons) <;> try exact aC
        · exact trip_ok a b c d e fs m 102 hm τ
      exact S_ret ⟨_, _, rfl, trivial, rfl, rfl⟩
    rw [if_neg h1]
    have hw : IntKind.i64.wrap (1 + IntKind.i64.wrap ((t.length : Int).tdiv 16)) = ((1 + t.length / 16 : Nat) : Int) := by
      have e1 : (t.length : Int).tdiv 16 = ((t.length / 16 : Nat) : Int) := by rw [Int.tdiv_eq_ediv_of_nonneg (by omega)]; omega
      have e2 : IntKind.i64.wrap ((t.length / 16 : Nat) : Int) = ((t.length / 16 : Nat) : Int) := IntWalk.i64_in _ ⟨by omega, by omega⟩
      rw [e1, e2, IntWalk.i64_in _ ⟨by omega, by omega⟩]; omega
    have hB := burn_ok a b c d e fs m (1 + t.length / 16) (by omega) hm τ
    unfold burnM at hB
    by_cases h2 : m.left < 1 + t.length / 16
    · rw [if_pos h2] at hB ⊢
      rw [decide_eq_false (by omega), ← hw] at hB
      refine pas [.b false, .f (.bool false) (fun _ => mcH a b c d e fs (endM 104 { m with left := 0 }) τ), .b false] rfl ?_ ?_
      · (repeat' with_reducible apply AllP_cons) <;> try exact aC
      exact S_nil ⟨_, _, rfl, trivial, rfl, rfl⟩
    · rw [if_neg h2] at hB ⊢
      rw [decide_eq_true (by omega), ← hw] at hB
      refine pas [.b false, .f (.bool true) (fun _ => mcH a b c d e fs { m with left := m.left - (1 + t.length / 16) } τ), .b true, .f (.tup []) (fun _ => mcH a b c d e fs (k { m with left := m.left - (1 + t.length / 16) }) τ)] rfl ?_ ?_
      · (repeat' with_reducible apply AllP_cons) <;> try exact aC
      exact S_nil ⟨_, _, rfl, trivial, rfl, rfl⟩
structure RegOk (m : Mc) : Prop where
  nd : m.ks.Nodup
  no : ∀ k, k ∉ m.ks → m.regs k = []
theorem RegOk.get {m : Mc} (h : RegOk m) (r : List UInt8) : (if r ∈ m.ks then AV.str (m.regs r) else .str []) = .str (m.regs r) := by
  split
  · rfl
  · rename_i hk; rw [h.no r hk]
theorem regX_put (m : Mc) (r t : List UInt8) : mapBx (addK m.ks r) (updF (fun k => .str (m.regs k)) r (.str t)) = regX { m with regs := updT m.regs r t, ks := addK m.ks r } := by
  unfold regX mapBx
  congr 2
  refine mapF_congr fun k _ => ?_
  unfold updF
  show (if k = r then AV.str t else .str (m.regs k)) = .str (updT m.regs r t k)
  unfold updT
  split <;> rfl
def seB (d : Nat) (r t : List UInt8) : Heap := [(0, some (.cells [.ptr 3 d 0] ⟨false, none⟩)), (0, some (.cells [.str r] ⟨false, none⟩)), (0, some (.cells [.str t] ⟨false, none⟩))]
theorem set1_ok (a b c d e : Nat) (fs : List Fil) (m : Mc) (r t : List UInt8) (hr : RegOk m) :
    CallOk cx 82 [.ptr 7 0 0, .ptr 5 0 0, .ptr 6 0 0] (mcH a b c d e fs m (seB d r t)) (fun o s => o = .ret (.tup []) ∧ s = mcH a b c d e fs { m with regs := updT m.regs r t, ks := addK m.ks r } (seB d r t)) :=
  callOk_intro (fun a w => Tryz.call82 a w) Tryz.func82 rfl Tryz.ntmps82 rfl fun B => by
    refine pa [.f (.tup []) (fun _ => mcH a b c d e fs { m with regs := updT m.regs r t, ks := addK m.ks r } (seB d r t))] rfl ?_ ?_
    · (repeat' with_reducible apply AllP_cons) <;> try exact aC
      · exact OpSpec.mput (kt := 9) (et := 9) (ks := m.ks) (val := fun k => .str (m.regs k)) (s := r) (v := .str t) rfl (Tryz.underlying52) rfl rfl rfl rfl rfl hr.nd (by rw [regX_put]; rfl)
    exact S_nil ⟨_, _, rfl, trivial, rfl, rfl⟩
theorem set_ok (a b c d e : Nat) (fs : List Fil) (m : Mc) (r t : List UInt8) (hr : RegOk m) (hm : m.left ≤ 100000) (ht : t.length ≤ 10000000) (τ : Heap) :
    CallOk cx 42 [.ptr 3 d 0, .str r, .str t] (mcH a b c d e fs m τ) (fun o s => o = .ret (.tup []) ∧ s = mcH a b c d e fs (setM r t m) τ) :=
  mcH_tail τ (callOk_introT (fun a w => Tryz.call42 a w) Tryz.func42 rfl Tryz.ntmps42 rfl fun B => by
    have hK := keep_ok a b c d e fs m t 82 [.ptr 7 0 0, .ptr 5 0 0, .ptr 6 0 0] (fun m => { m with regs := updT m.regs r t, ks := addK m.ks r }) (seB d r t) hm ht (set1_ok a b c d e fs _ r t ⟨hr.nd, hr.no⟩)
    refine pB [.f (.tup []) (fun _ => mcH a b c d e fs (setM r t m) (seB d r t))] rfl ?_
    exact S_nil ⟨_, _, rfl, trivial, 5, Nat.le_refl _, mcH_low a b c d e fs _ _, .tup [], .low (.tup (by simp)), rfl, rfl⟩) (by intro x hx; simp at hx; rcases hx with rfl | rfl <;> exact .str) (.tup (by simp))
theorem jump_ok (a b c d e : Nat) (fs : List Fil) (m : Mc) (is : Bool) (to : Nat) (hm : m.left ≤ 100000) (τ : Heap) :
    CallOk cx 57 [.ptr 3 d 0, .bool is, .int .i64 (to : Nat)] (mcH a b c d e fs m τ) (fun o s => o = .ret (.tup []) ∧ s = mcH a b c d e fs (jumpM is to m) τ) :=
  mcH_tail τ (callOk_intro (fun a w => Tryz.call57 a w) Tryz.func57 rfl Tryz.ntmps57 rfl fun B => by
    have hB := burn_ok a b c d e fs m 1 (by omega) hm []
    unfold burnM at hB
    unfold jumpM
    by_cases h : m.left < 1
    · rw [if_pos h] at hB ⊢
      rw [decide_eq_false (by omega)] at hB
      refine pB [.f (.bool false) (fun _ => mcH a b c d e fs (endM 104 { m with left := 0 }) []), .b false, .b false] rfl ?_
      exact S_nil ⟨_, _, rfl, trivial, rfl, rfl⟩
    · rw [if_neg h] at hB ⊢
      rw [decide_eq_true (by omega)] at hB
      cases is with
      | true =>
        refine pB [.f (.bool true) (fun _ => mcH a b c d e fs { m with left := m.left - 1 } []), .b true, .b true] rfl ?_
        exact S_nil ⟨_, _, rfl, trivial, rfl, rfl⟩
      | false =>
        refine pB [.f (.bool true) (fun _ => mcH a b c d e fs { m with left := m.left - 1 } []), .b true, .b false] rfl ?_
        exact S_nil ⟨_, _, rfl, trivial, rfl, rfl⟩) (by intro x hx; simp at hx; rcases hx with rfl | rfl; exact .bool; exact .int) (.tup (by simp))
end Go.Proofs.YtgmakmfdjhgjlaaGreatDoor
end
section
set_option linter.unusedVariables false
set_option linter.unusedSimpArgs false
set_option maxRecDepth 20000
set_option maxHeartbeats 4000000
namespace Go.Proofs.YtgmakmfdjhgjlaaGreatDoor
open Go Go.Ab
def nsA (l : List Nat) : List AV := l.map fun (x : Nat) => .int .i64 x
def lnC (x : Ln) : List AV := [.str x.op, .sl true false 1 (texts x.ws), .sl true false 1 (nsA x.ns)]
def lnA (x : Ln) : AV := .agg (lnC x)
theorem nsA_free {st : Bool} (l : List Nat) : ∀ y ∈ nsA l, Free st y := by
  intro y hy
  obtain ⟨n, _, rfl⟩ := List.mem_map.1 hy
  exact .int
theorem lnC_free {st : Bool} (x : Ln) : ∀ y ∈ lnC x, Free st y := by
  intro y hy
  simp only [lnC, List.mem_cons, List.not_mem_nil, or_false] at hy
  rcases hy with rfl | rfl | rfl
  · exact .str
  · exact .sl (fun _ => rfl) (texts_any _)
  · exact .sl (fun _ => rfl) (nsA_free _)
theorem lnA_free {st : Bool} (x : Ln) : Free st (lnA x) := .agg (lnC_free x)
def lnB (x : Ln) : Nat × Option Box := (0, some (.cells (lnC x) ⟨false, some 57⟩))
structure McOk (m : Mc) : Prop where
  reg : RegOk m
  len : ∀ r, (m.regs r).length ≤ 100000
  left : m.left ≤ 100000
def Does (f : FuncId) (x : Ln) (k : Mc → Mc) (fs : List Fil) : Prop := ∀ (a b c d e : Nat) (m : Mc) (τ : Heap), McOk m →
  CallOk cx f [.ptr 3 d 0, lnA x] (mcH a b c d e fs m τ) (fun o s => o = .ret (.tup []) ∧ s = mcH a b c d e fs (k m) τ)
theorem Does.of {f : FuncId} {x : Ln} {k : Mc → Mc} {fs : List Fil} (h : ∀ (a b c d e : Nat) (m : Mc), McOk m → CallOk cx f [.ptr 3 d 0, lnA x] (mcH a b c d e fs m []) (fun o s => o = .ret (.tup []) ∧ s = mcH a b c d e fs (k m) [])) : Does f x k fs :=
  fun a b c d e m τ hm => mcH_tail τ (h a b c d e m hm) (by intro y hy; simp at hy; subst hy; exact lnA_free x) (.tup (by simp))
theorem endT {a b c d e : Nat} {fs : List Fil} {m : Mc} {τ : Heap} : TR 5 (fun o s => o = .ret (.tup []) ∧ s = mcH a b c d e fs m []) (.ret (.tup [])) (mcH a b c d e fs m τ) :=
  ⟨5, Nat.le_refl _, mcH_low a b c d e fs _ _, .tup [], .low (.tup (by simp)), rfl, rfl⟩
theorem st1_ok (fs : List Fil) (r t : List UInt8) (ht : t.length ≤ 10000000) : Does 41 ⟨kSet, [r, t], []⟩ (setM r t) fs := Does.of fun a b c d e m hm =>
  callOk_introT (fun a w => Tryz.call41 a w) Tryz.func41 rfl Tryz.ntmps41 rfl fun B => by
    have h := set_ok a b c d e fs m r t hm.reg hm.left ht [lnB ⟨kSet, [r, t], []⟩]
    refine pB [.v (.str r), .v (.str t), .f (.tup []) (fun _ => mcH a b c d e fs (setM r t m) [lnB ⟨kSet, [r, t], []⟩])] rfl ?_
    exact S_nil ⟨_, _, rfl, trivial, endT⟩
theorem get_reg {n : Nat} {fr : Fr} {σ : Heap} {o : Oper} {m : Mc} {mo key : Operand} {c : Nat} {r : List UInt8} (hr : RegOk m) (ho : o.op = .lookup 52 mo key false) (hm : ev cx fr mo = .map 2 c) (hk : ev cx fr key = .str r) (hσ : σ[2]? = some (c, regX m)) :
    OpSpec cx n fr σ o (.str (m.regs r)) σ :=
  OpSpec.mget (kt := 9) (et := 9) (ks := m.ks) (val := fun k => .str (m.regs k)) (z := .str []) (s := r) ho (Tryz.underlying52) rfl hm hk hσ rfl (by
    show (if r ∈ m.ks then AV.str (m.regs r) else .str []) = _
    exact hr.get r)
theorem st4_ok (fs : List Fil) (r s : List UInt8) (ns : List Nat) : Does 47 ⟨kJoin, [r, s], ns⟩ (fun m => setM r (m.regs r ++ m.regs s) m) fs := Does.of fun a b c d e m hm =>
  callOk_introT (fun a w => Tryz.call47 a w) Tryz.func47 rfl Tryz.ntmps47 rfl fun B => by
    have l1 := hm.len r
    have l2 := hm.len s
    have h := set_ok a b c d e fs m r (m.regs r ++ m.regs s) hm.reg hm.left (by rw [List.length_append]; omega) [lnB ⟨kJoin, [r, s], ns⟩]
    refine pa [.v (.str r), .v (.str r), .v (.str (m.regs r)), .v (.str s), .v (.str (m.regs s)), .f (.tup []) (fun _ => mcH a b c d e fs (setM r (m.regs r ++ m.regs s) m) [lnB ⟨kJoin, [r, s], ns⟩])] rfl ?_ ?_
    · (repeat' with_reducible apply AllP_cons) <;> try exact aC
      all_goals first | exact get_reg hm.reg rfl rfl rfl rfl | skip
    exact S_nil ⟨_, _, rfl, trivial, endT⟩
end Go.Proofs.YtgmakmfdjhgjlaaGreatDoor
end
section
set_option linter.unusedVariables false
set_option linter.unusedSimpArgs false
set_option maxRecDepth 20000
set_option maxHeartbeats 4000000
namespace Go.Proofs.YtgmakmfdjhgjlaaGreatDoor
open Go Go.Ab
theorem st5_ok (fs : List Fil) (r : List UInt8) (ws : List (List UInt8)) (n0 i j : Nat) (hi : i ≤ 1000000) (hj : j ≤ 1000000) : Does 48 ⟨kCut, r :: ws, [n0, i, j]⟩ (fun m => setM r (((m.regs r).take (min (m.regs r).length j)).drop (min (min (m.regs r).length j) i)) m) fs := Does.of fun a b c d e m hm =>
  callOk_introT (fun a w => Tryz.call48 a w) Tryz.func48 rfl Tryz.ntmps48 rfl fun B => by
    have l1 := hm.len r
    generalize hw : m.regs r = w at *
    have h := set_ok a b c d e fs m r ((w.take (min w.length j)).drop (min (min w.length j) i)) hm.reg hm.left (by rw [List.length_drop, List.length_take]; omega) [lnB ⟨kCut, r :: ws, [n0, i, j]⟩]
    have e1 : min (w.length : Int) (j : Int) = ((min w.length j : Nat) : Int) := by omega
    have e2 : min ((min w.length j : Nat) : Int) (i : Int) = ((min (min w.length j) i : Nat) : Int) := by omega
    have hc : cutL (some (min (min (w.length : Int) (j : Int)) (i : Int))) (some (min (w.length : Int) (j : Int))) w = (w.take (min w.length j)).drop (min (min w.length j) i) := by
      rw [e1, e2]; simp [cutL]
    have h' : CallOk cx 42 [.ptr 3 d 0, .str r, .str (cutL (some (min (min (w.length : Int) (j : Int)) (i : Int))) (some (min (w.length : Int) (j : Int))) w)] (mcH a b c d e fs m [lnB ⟨kCut, r :: ws, [n0, i, j]⟩])
      (fun o s => o = .ret (.tup []) ∧ s = mcH a b c d e fs (setM r ((w.take (min w.length j)).drop (min (min w.length j) i)) m) [lnB ⟨kCut, r :: ws, [n0, i, j]⟩]) := by rw [hc]; exact h
    refine pa [.v (.str r), .v (.str w), .v (.int .i64 (j : Nat)), .v (.str r), .v (.int .i64 (i : Nat)), .f (.tup []) (fun _ => mcH a b c d e fs (setM r ((w.take (min w.length j)).drop (min (min w.length j) i)) m) [lnB ⟨kCut, r :: ws, [n0, i, j]⟩])] rfl ?_ ?_
    · (repeat' with_reducible apply AllP_cons) <;> try exact aC
      all_goals first | exact hw ▸ get_reg hm.reg rfl rfl rfl rfl | skip
    exact S_nil ⟨_, _, rfl, trivial, endT⟩
theorem st6_ok (fs : List Fil) (r s : List UInt8) (ns : List Nat) : Does 49 ⟨kSize, [r, s], ns⟩ (fun m => setM r (digs (m.regs s).length) m) fs := Does.of fun a b c d e m hm =>
  callOk_introT (fun a w => Tryz.call49 a w) Tryz.func49 rfl Tryz.ntmps49 rfl fun B => by
    have l1 := hm.len s
    have hI := Itoa_ok (((m.regs s).length : Nat) : Int) (by omega) (by omega)
    rw [itoa_digs] at hI
    have hdl := digs_len (m.regs s).length _ rfl
    have h := set_ok a b c d e fs m r (digs (m.regs s).length) hm.reg hm.left (by omega) [lnB ⟨kSize, [r, s], ns⟩]
    refine pa [.v (.str r), .v (.str s), .v (.str (m.regs s)), .v (.str (digs (m.regs s).length)), .f (.tup []) (fun _ => mcH a b c d e fs (setM r (digs (m.regs s).length) m) [lnB ⟨kSize, [r, s], ns⟩])] rfl ?_ ?_
    · (repeat' with_reducible apply AllP_cons) <;> try exact aC
      all_goals first | exact get_reg hm.reg rfl rfl rfl rfl | exact ⟨_, hI, .cons (.refl .int) (.nil _)⟩
    exact S_nil ⟨_, _, rfl, trivial, endT⟩
theorem st7_ok (fs : List Fil) (r : List UInt8) (ns : List Nat) : Does 51 ⟨kSum, [r], ns⟩ (fun m => setM r (sha (m.regs r)) m) fs := Does.of fun a b c d e m hm =>
  callOk_introT (fun a w => Tryz.call51 a w) Tryz.func51 rfl Tryz.ntmps51 rfl fun B => by
    have l1 := hm.len r
    have hS := Sum_ok (m.regs r) (by omega)
    have h := set_ok a b c d e fs m r (sha (m.regs r)) hm.reg hm.left (by rw [sha_len]; omega) [lnB ⟨kSum, [r], ns⟩]
    refine pa [.v (.str r), .v (.str r), .v (.str (m.regs r)), .v (.str (sha (m.regs r))), .f (.tup []) (fun _ => mcH a b c d e fs (setM r (sha (m.regs r)) m) [lnB ⟨kSum, [r], ns⟩])] rfl ?_ ?_
    · (repeat' with_reducible apply AllP_cons) <;> try exact aC
      all_goals first | exact get_reg hm.reg rfl rfl rfl rfl | exact ⟨_, hS, .cons (.refl .str) (.nil _)⟩
    exact S_nil ⟨_, _, rfl, trivial, endT⟩
theorem st10_ok (fs : List Fil) (r s : List UInt8) (ws : List (List UInt8)) (n0 n1 j : Nat) : Does 56 ⟨kSame, r :: s :: ws, [n0, n1, j]⟩ (fun m => jumpM (m.regs r == m.regs s) j m) fs := Does.of fun a b c d e m hm =>
  callOk_introT (fun a w => Tryz.call56 a w) Tryz.func56 rfl Tryz.ntmps56 rfl fun B => by
    have h := jump_ok a b c d e fs m (m.regs r == m.regs s) j hm.left [lnB ⟨kSame, r :: s :: ws, [n0, n1, j]⟩]
    refine pa [.v (.str r), .v (.str (m.regs r)), .v (.str s), .v (.str (m.regs s)), .v (.int .i64 (j : Nat)), .f (.tup []) (fun _ => mcH a b c d e fs (jumpM (m.regs r == m.regs s) j m) [lnB ⟨kSame, r :: s :: ws, [n0, n1, j]⟩])] rfl ?_ ?_
    · (repeat' with_reducible apply AllP_cons) <;> try exact aC
      all_goals first | exact get_reg hm.reg rfl rfl rfl rfl | skip
    exact S_nil ⟨_, _, rfl, trivial, endT⟩
theorem st11_ok (fs : List Fil) (r s : List UInt8) (ws : List (List UInt8)) (n0 n1 j : Nat) : Does 58 ⟨kLess, r :: s :: ws, [n0, n1, j]⟩ (fun m => jumpM (Op.bytesLess (m.regs r) (m.regs s)) j m) fs := Does.of fun a b c d e m hm =>
  callOk_introT (fun a w => Tryz.call58 a w) Tryz.func58 rfl Tryz.ntmps58 rfl fun B => by
    have h := jump_ok a b c d e fs m (Op.bytesLess (m.regs r) (m.regs s)) j hm.left [lnB ⟨kLess, r :: s :: ws, [n0, n1, j]⟩]
    refine pa [.v (.str r), .v (.str (m.regs r)), .v (.str s), .v (.str (m.regs s)), .v (.int .i64 (j : Nat)), .f (.tup []) (fun _ => mcH a b c d e fs (jumpM (Op.bytesLess (m.regs r) (m.regs s)) j m) [lnB ⟨kLess, r :: s :: ws, [n0, n1, j]⟩])] rfl ?_ ?_
    · (repeat' with_reducible apply AllP_cons) <;> try exact aC
      all_goals first | exact get_reg hm.reg rfl rfl rfl rfl | skip
    exact S_nil ⟨_, _, rfl, trivial, endT⟩
theorem st12_ok (fs : List Fil) (ws : List (List UInt8)) (j : Nat) : Does 59 ⟨kGoto, ws, [j]⟩ (fun m => jumpM true j m) fs := Does.of fun a b c d e m hm =>
  callOk_introT (fun a w => Tryz.call59 a w) Tryz.func59 rfl Tryz.ntmps59 rfl fun B => by
    have h := jump_ok a b c d e fs m true j hm.left [lnB ⟨kGoto, ws, [j]⟩]
    refine pB [.v (.int .i64 (j : Nat)), .f (.tup []) (fun _ => mcH a b c d e fs (jumpM true j m) [lnB ⟨kGoto, ws, [j]⟩])] rfl ?_
    exact S_nil ⟨_, _, rfl, trivial, endT⟩
theorem st13_ok (fs : List Fil) (ws : List (List UInt8)) (j : Nat) : Does 60 ⟨kExit, ws, [j]⟩ (fun m => exitM j m) fs := Does.of fun a b c d e m hm =>
  callOk_introT (fun a w => Tryz.call60 a w) Tryz.func60 rfl Tryz.ntmps60 rfl fun B => by
    have hB := burn_ok a b c d e fs m 1 (by omega) hm.left [lnB ⟨kExit, ws, [j]⟩]
    unfold burnM at hB
    unfold exitM
    by_cases h : m.left < 1
    · rw [if_pos h] at hB ⊢
      rw [decide_eq_false (by omega)] at hB
      refine pB [.f (.bool false) (fun _ => mcH a b c d e fs (endM 104 { m with left := 0 }) [lnB ⟨kExit, ws, [j]⟩]), .b false] rfl ?_
      exact S_nil ⟨_, _, rfl, trivial, endT⟩
    · rw [if_neg h] at hB ⊢
      rw [decide_eq_true (by omega)] at hB
      have hE := end_ok a b c d e fs { m with left := m.left - 1 } j [lnB ⟨kExit, ws, [j]⟩]
      refine pB [.f (.bool true) (fun _ => mcH a b c d e fs { m with left := m.left - 1 } [lnB ⟨kExit, ws, [j]⟩]), .b true, .v (.int .i64 (j : Nat)), .f (.tup []) (fun _ => mcH a b c d e fs (endM j { m with left := m.left - 1 }) [lnB ⟨kExit, ws, [j]⟩])] rfl ?_
      exact S_nil ⟨_, _, rfl, trivial, endT⟩
structure TrOk (fs : List Fil) : Prop where
  len : fs.length ≤ 60
  nd : (fs.map Fil.path).Nodup
  path : ∀ f ∈ fs, f.path.length ≤ 100
  text : ∀ f ∈ fs, f.text.length ≤ 100000
theorem find_vaP {fs : List Fil} (hn : (fs.map Fil.path).Nodup) (p : List UInt8) : (fs.find? (fun f => f.path == p) = none ∧ p ∉ fs.map Fil.path) ∨ (∃ f ∈ fs, fs.find? (fun f => f.path == p) = some f ∧ f.path = p ∧ p ∈ fs.map Fil.path ∧ vaP fs p = filA f) := by
  cases hq : fs.find? (fun f => f.path == p) with
  | none =>
    refine .inl ⟨rfl, fun hp => ?_⟩
    obtain ⟨f, hf, e⟩ := List.mem_map.1 hp
    have := List.find?_eq_none.1 hq f hf
    exact this (by simpa using e)
  | some f =>
    have h1 := List.mem_of_find?_eq_some hq
    have h2 : f.path = p := by have := List.find?_some hq; simpa using this
    refine .inr ⟨f, h1, rfl, h2, h2 ▸ List.mem_map.2 ⟨f, h1, rfl⟩, ?_⟩
    unfold vaP
    have hk : p ∈ ksP fs := ksP_mem.2 ⟨f, h1, h2⟩
    obtain ⟨k1, k2⟩ := lastF_mem hk
    have : lastF fs p = f := by
      obtain ⟨i, hi, ei⟩ := List.getElem_of_mem k1
      obtain ⟨j, hj, ej⟩ := List.getElem_of_mem h1
      have hij : i = j := (List.getElem_inj (xs := fs.map Fil.path) (h₀ := by simpa using hi) (h₁ := by simpa using hj) hn).1 (by simp [ei, ej, k2, h2])
      subst hij
      rw [← ei, ← ej]
    rw [this]
def filB0 (f : Fil) : Nat × Option Box := filBx 0 f
theorem st2_ok (fs : List Fil) (hf : TrOk fs) (r p : List UInt8) (ns : List Nat) : Does 43 ⟨kRead, [r, p], ns⟩ (fun m => match fs.find? (fun f => f.path == p) with | none => tripM 101 m | some f => setM r f.text m) fs := Does.of fun a b c d e m hm =>
  callOk_introT (fun a w => Tryz.call43 a w) Tryz.func43 rfl Tryz.ntmps43 rfl fun B => by
    refine pB [] rfl ?_
    rcases find_vaP hf.nd p with ⟨h1, h2⟩ | ⟨f, hfm, h1, h2, h3, h4⟩
    · rw [h1]
      have hT := trip_ok a b c d e fs m 101 hm.left [lnB ⟨kRead, [r, p], ns⟩, filB0 ⟨[], [], false⟩]
      refine S_drawC2 (mcH a b c d e fs m [lnB ⟨kRead, [r, p], ns⟩, filB0 ⟨[], [], false⟩]) (mcH a b c d e fs m [lnB ⟨kRead, [r, p], ns⟩, filB0 ⟨[], [], false⟩]) 12 13 15 [] [.str p, .tup [filA ⟨[], [], false⟩, .bool false], .ptr 6 0 0, .tup []] rfl rfl rfl rfl rfl rfl rfl ?_ ?_
      · (repeat' with_reducible apply AllP_cons) <;> try exact aC
        all_goals first
          | exact OpSpec.mget (kt := 9) (et := 38) (ks := fs.map Fil.path) (val := vaP fs) (z := filA ⟨[], [], false⟩) (s := p) rfl (Tryz.underlying51) rfl rfl rfl rfl rfl (by rw [if_neg h2, decide_eq_false h2]; rfl)
          | exact OpSpec.aop rfl (by (repeat' with_reducible apply AllP_cons) <;> try exact aC)
      refine pB [.b true, .f (.tup []) (fun _ => mcH a b c d e fs (tripM 101 m) [lnB ⟨kRead, [r, p], ns⟩, filB0 ⟨[], [], false⟩])] rfl ?_
      exact S_ret ⟨_, _, rfl, trivial, endT⟩
    · rw [h1]
      have hl := hf.text f hfm
      have hT := set_ok a b c d e fs m r f.text hm.reg hm.left (by omega) [lnB ⟨kRead, [r, p], ns⟩, filB0 f]
      refine S_drawC2 (mcH a b c d e fs m [lnB ⟨kRead, [r, p], ns⟩, filB0 ⟨[], [], false⟩]) (mcH a b c d e fs m [lnB ⟨kRead, [r, p], ns⟩, filB0 f]) 12 13 15 [] [.str p, .tup [filA f, .bool true], .ptr 6 0 0, .tup []] rfl rfl rfl rfl rfl rfl rfl ?_ ?_
      · (repeat' with_reducible apply AllP_cons) <;> try exact aC
        all_goals first
          | exact OpSpec.mget (kt := 9) (et := 38) (ks := fs.map Fil.path) (val := vaP fs) (z := filA ⟨[], [], false⟩) (s := p) rfl (Tryz.underlying51) rfl rfl rfl rfl rfl (by rw [if_pos h3, decide_eq_true h3, h4]; rfl)
          | exact OpSpec.aop rfl (by (repeat' with_reducible apply AllP_cons) <;> try exact aC)
      refine pB [.b false, .v (.str r), .f (.tup []) (fun _ => mcH a b c d e fs (setM r f.text m) [lnB ⟨kRead, [r, p], ns⟩, filB0 f])] rfl ?_
      exact S_nil ⟨_, _, rfl, trivial, endT⟩
theorem listT_take (fs : List Fil) (dr : List UInt8) {i : Nat} (h : i < fs.length) : listT (fs.take (i + 1)) dr = listT (fs.take i) dr ++ (if dr = [46] ∨ insT dr fs[i].path = true then fs[i].path ++ [10] else []) := by
  unfold listT
  rw [List.take_succ_eq_append_getElem h, List.flatMap_append]
  simp
theorem listT_len {fs : List Fil} (hp : ∀ f ∈ fs, f.path.length ≤ 100) (dr : List UInt8) : (listT fs dr).length ≤ fs.length * 101 := by
  induction fs with
  | nil => simp [listT]
  | cons f r ih =>
    have h1 := ih fun g hg => hp g (List.mem_cons_of_mem _ hg)
    have h2 := hp f (List.mem_cons_self ..)
    have h3 : listT (f :: r) dr = (if dr = [46] ∨ insT dr f.path = true then f.path ++ [10] else []) ++ listT r dr := rfl
    rw [h3, List.length_append, List.length_cons]
    split
    · rw [List.length_append, List.length_cons, List.length_nil]; omega
    · rw [List.length_nil]; omega
theorem tx_off (i : Nat) : offN 0 (mulN (i : Int).toNat 1) = i := by
  rw [Int.toNat_natCast]
  unfold offN mulN
  simp
theorem st3_ok (fs : List Fil) (hf : TrOk fs) (r p : List UInt8) (hp : p.length ≤ 10000000) (ns : List Nat) : Does 45 ⟨kList, [r, p], ns⟩ (setM r (listT fs p)) fs := Does.of fun a b c d e m hm =>
  callOk_introT (fun a w => Tryz.call45 a w) Tryz.func45 rfl Tryz.ntmps45 rfl fun B => by
    have hfl := hf.len
    have hll := listT_len hf.path p
    refine pB [] rfl ?_
    refine S_while (α := Nat) (fun i => [(0, .ptr 3 d 0), (3, .ptr 5 0 0), (4, .str (listT (fs.take i) p)), (10, .ms 4 e 0 fs.length 1 false), (11, .int .i64 (fs.length : Nat)), (12, .int .i64 (i : Nat))]) (fun _ => mcH a b c d e fs m [lnB ⟨kList, [r, p], ns⟩]) (fun i => i ≤ fs.length) (fun i => fs.length - i) 0
      (Nat.zero_le _) (.cons rfl (.cons rfl (.cons rfl (.cons rfl (.cons rfl (.cons rfl (.nil _))))))) rfl ?_
    intro i hi
    have hi : i ≤ fs.length := hi
    by_cases hlt : i < fs.length
    · have e1 : decide ((i : Int) < (fs.length : Int)) = true := decide_eq_true (by omega)
      have g1 : ((texts (fs.map Fil.path)).drop (offN 0 (mulN (i : Int).toNat 1)))[0]? = some (.str fs[i].path) := by
        rw [show offN 0 (mulN (i : Int).toNat 1) = i from tx_off i, List.getElem?_drop, Nat.add_zero]; simp [texts, List.getElem?_eq_getElem hlt]
      have hpl := hf.path _ (List.getElem_mem hlt)
      have hll' := listT_len (fs := fs.take i) (fun g hg => hf.path g (List.mem_of_mem_take hg)) p
      rw [List.length_take] at hll'
      have hmi : min i fs.length * 101 ≤ 60 * 101 := Nat.mul_le_mul_right _ (by omega)
      have hstep := listT_take fs p hlt
      have key : ∀ s : List UInt8, s = listT (fs.take (i + 1)) p → Weak [(0, .ptr 3 d 0), (3, .ptr 5 0 0), (4, .str s), (10, .ms 4 e 0 fs.length 1 false), (11, .int .i64 (fs.length : Nat)), (12, .int .i64 ((i + 1 : Nat) : Int))] [(0, .ptr 3 d 0), (3, .ptr 5 0 0), (4, .str (listT (fs.take (i + 1)) p)), (10, .ms 4 e 0 fs.length 1 false), (11, .int .i64 (fs.length : Nat)), (12, .int .i64 ((i + 1 : Nat) : Int))] := by
        rintro s rfl; exact fun t => .inr rfl
      by_cases hd : p = [46]
      · have hd' : (p == [46]) = true := by simpa using hd
        refine pa [.b true, .v .top, .v (.str fs[i].path), .v (.str p), .b true, .b true] rfl ?_ ?_
        · (repeat' with_reducible apply AllP_cons) <;> try exact aC
          all_goals first | exact g1 | (show ((fs[i].path.length + 1 : Nat) : Int) ≤ _; omega) | (rw [List.length_append]; show (((listT (fs.take i) p).length + (fs[i].path.length + 1) : Nat) : Int) ≤ _; omega) | skip
        rw [if_pos (.inl hd)] at hstep
        exact S_round (i + 1) (by show fs.length - (i + 1) < fs.length - i; omega) hlt (.cons rfl (.cons rfl (.cons (by show AV.str (listT (fs.take i) p ++ (fs[i].path ++ [10])) = _; rw [← hstep]) (.cons rfl (.cons rfl (.cons (nX (by omega)) (.nil _))))))) rfl
      · have hd' : (p == [46]) = false := by simpa using hd
        have hH := HasPrefix_ok fs[i].path (p ++ [47])
        cases hin : insT p fs[i].path with
        | true =>
          have hin' : (p ++ [47]).isPrefixOf fs[i].path = true := hin
          rw [hin'] at hH
          refine pa [.b true, .v .top, .v (.str fs[i].path), .v (.str p), .b false, .v (.str p), .v (.bool true), .b true] rfl ?_ ?_
          · (repeat' with_reducible apply AllP_cons) <;> try exact aC
            all_goals first | exact ⟨_, hH, .cons (.refl .str) (.cons (.refl .str) (.nil _))⟩ | exact g1 | (show ((fs[i].path.length + 1 : Nat) : Int) ≤ _; omega) | (rw [List.length_append]; show (((listT (fs.take i) p).length + (fs[i].path.length + 1) : Nat) : Int) ≤ _; omega) | skip
          rw [if_pos (.inr hin)] at hstep
          exact S_round (i + 1) (by show fs.length - (i + 1) < fs.length - i; omega) hlt (.cons rfl (.cons rfl (.cons (by show AV.str (listT (fs.take i) p ++ (fs[i].path ++ [10])) = _; rw [← hstep]) (.cons rfl (.cons rfl (.cons (nX (by omega)) (.nil _))))))) rfl
        | false =>
          have hin' : (p ++ [47]).isPrefixOf fs[i].path = false := hin
          rw [hin'] at hH
          refine pa [.b true, .v .top, .v (.str fs[i].path), .v (.str p), .b false, .v (.str p), .v (.bool false), .b false] rfl ?_ ?_
          · (repeat' with_reducible apply AllP_cons) <;> try exact aC
            all_goals first | exact ⟨_, hH, .cons (.refl .str) (.cons (.refl .str) (.nil _))⟩ | exact g1 | (show ((fs[i].path.length + 1 : Nat) : Int) ≤ _; omega) | (rw [List.length_append]; show (((listT (fs.take i) p).length + (fs[i].path.length + 1) : Nat) : Int) ≤ _; omega) | skip
          rw [if_neg (by rintro (h | h); exact hd h; rw [hin] at h; cases h), List.append_nil] at hstep
          exact S_round (i + 1) (by show fs.length - (i + 1) < fs.length - i; omega) hlt (.cons rfl (.cons rfl (.cons (by show AV.str (listT (fs.take i) p) = _; rw [← hstep]) (.cons rfl (.cons rfl (.cons (nX (by omega)) (.nil _))))))) rfl
    · have e1 : decide ((i : Int) < (fs.length : Int)) = false := decide_eq_false (by omega)
      obtain rfl : i = fs.length := by omega
      have h := set_ok a b c d e fs m r (listT fs p) hm.reg hm.left (by omega) [lnB ⟨kList, [r, p], ns⟩]
      rw [List.take_length]
      refine pB [.b false, .v (.str r), .f (.tup []) (fun _ => mcH a b c d e fs (setM r (listT fs p) m) [lnB ⟨kList, [r, p], ns⟩])] rfl ?_
      exact S_nil ⟨_, _, rfl, trivial, endT⟩
end Go.Proofs.YtgmakmfdjhgjlaaGreatDoor
end
section
set_option linter.unusedVariables false
set_option linter.unusedSimpArgs false
set_option maxRecDepth 20000
set_option maxHeartbeats 4000000
namespace Go.Proofs.YtgmakmfdjhgjlaaGreatDoor
open Go Go.Ab
theorem mapP_add (c : List Fil) (f : Fil) : mapBx (addK (ksP c) f.path) (updF (vaP c) f.path (filA f)) = mapBx (ksP (c ++ [f])) (vaP (c ++ [f])) := by
  unfold mapBx
  rw [ksP_add]
  show some (Box.map (mapF (addU _ _) _) none) = some (Box.map (mapF (addU _ _) _) none)
  congr 2
  refine mapF_congr fun n _ => ?_
  unfold updF vaP
  rw [lastF_add]
  split <;> rfl
def maB (d : Nat) (p t : List UInt8) (run : Bool) (τ : Heap) : Heap := (0, some (.cells [.ptr 3 d 0] ⟨false, none⟩)) :: (0, some (.cells [.str p] ⟨false, none⟩)) :: (0, some (.cells [.str t] ⟨false, none⟩)) :: (0, some (.cells [.bool run] ⟨false, none⟩)) :: τ
theorem make1_ok (a b c d e : Nat) (fs : List Fil) (m : Mc) (p t : List UInt8) (run : Bool) (g : Fil) :
    CallOk cx 87 [.ptr 6 0 0, .ptr 7 0 0, .ptr 8 0 0, .ptr 5 0 0] (mcH a b c d e fs m (maB d p t run [filBx 1 g])) (fun o s => o = .ret (.tup []) ∧ s = mcH a b c d e fs { m with made := m.made ++ [⟨p, t, run⟩] } (maB d p t run [filBx 1 g])) :=
  callOk_intro (fun a w => Tryz.call87 a w) Tryz.func87 rfl Tryz.ntmps87 rfl fun B => by
    refine pa [.f (.tup []) (fun _ => mcH a b c d e fs { m with made := m.made ++ [⟨p, t, run⟩] } (maB d p t run [filBx 1 g]))] rfl ?_ ?_
    · (repeat' with_reducible apply AllP_cons) <;> try exact aC
      · exact OpSpec.mput (kt := 9) (et := 38) (ks := ksP m.made) (val := vaP m.made) (s := p) (v := filA ⟨p, t, run⟩) rfl (Tryz.underlying51) rfl rfl rfl rfl rfl (ksP_nodup _) (by rw [mapP_add m.made ⟨p, t, run⟩]; rfl)
    exact S_nil ⟨_, _, rfl, trivial, rfl, rfl⟩
def mcS (a b c d e : Nat) (fs : List Fil) (m : Mc) (st : Option (List Nat × Nat)) (τ : Heap) : Heap :=
  (a, mapBx (fs.map Fil.path) (vaP fs)) :: (b, some (.map (mapF (ksP m.made) (vaP m.made)) st)) :: (c, regX m) :: (d, some (.cells (mcC a b c e fs.length m) ⟨false, some 54⟩)) :: (e, some (.cells (texts (fs.map Fil.path)) ⟨false, none⟩)) :: τ
def hitM (p q : List UInt8) : Bool := q != p && meetT q p
theorem make_ok (a b c d e : Nat) (fs : List Fil) (m : Mc) (p t : List UInt8) (run : Bool) (hm : m.left ≤ 100000) (ht : t.length ≤ 10000000) (hp : p.length ≤ 10000000) (hq : ∀ q ∈ ksP m.made, q.length ≤ 10000000) (τ : Heap) :
    CallOk cx 54 [.ptr 3 d 0, .str p, .str t, .bool run] (mcH a b c d e fs m τ) (fun o s => o = .ret (.tup []) ∧ s = mcH a b c d e fs (makeM p t run m) τ) :=
  mcH_tail τ (callOk_introT (fun a w => Tryz.call54 a w) Tryz.func54 rfl Tryz.ntmps54 rfl fun B => by
    refine pB [.s] rfl ?_
    refine S_stamp (id := 1) rfl (fun bs c0 hbl hbn hbc => ?_) ⟨.skip, _, .inr ⟨_, _, _, rfl⟩⟩
    have hbl : bs.length = (ksP m.made).length := by rw [hbl]; unfold mapF; rw [List.length_map]
    have hkl := ksP_nodup m.made
    refine pa [.f (.ptr 9 0 0) (fun _ => mcS a b c d e fs m (some (bs, c0)) (maB d p t run [(0, some (.miter 1 b c0 [] c0))]))] rfl ?_ ?_
    · (repeat' with_reducible apply AllP_cons) <;> try exact aC
      · exact OpSpec.mapN (C := [b = b]) rfl ⟨rfl, trivial⟩
    have hnat : ∀ sn : List Nat, sn.Nodup → (∀ x ∈ sn, x ∈ bs) → sn.length ≤ bs.length := fun sn h1 h2 => List.Nodup.length_le_of_subset h1 h2
    refine S_while (α := List Nat × Bool) (fun s => [(4, .ptr 5 0 0), (5, .ptr 6 0 0), (6, .ptr 7 0 0), (7, .ptr 8 0 0), (8, .bool s.2), (16, .ptr 9 0 0)]) (fun s => mcS a b c d e fs m (some (bs, c0)) (maB d p t run [(0, some (.miter 1 b c0 s.1 c0))]))
      (fun s => s.1.Nodup ∧ (∀ x ∈ s.1, x ∈ bs) ∧ (s.2 = true ↔ ∃ i, ∃ h : i < (ksP m.made).length, ∃ x ∈ s.1, bs[i]? = some x ∧ hitM p (ksP m.made)[i] = true)) (fun s => bs.length - s.1.length) ([], false)
      ⟨.nil, (fun x h => by cases h), Iff.intro (fun h => by cases h) (fun h => by obtain ⟨_, _, x, hx, _⟩ := h; cases hx)⟩ (.cons rfl (.cons rfl (.cons rfl (.cons rfl (.cons rfl (.cons rfl (.nil _))))))) rfl ?_
    rintro ⟨sn, bad⟩ ⟨hs1, hs2, hs3⟩
    refine pB [] rfl ?_
    refine S_mnext (id := 9) (ver := 0) (mid := 1) (mver := b) (since := c0) (last := c0) (c := c0) (seen := sn) (bs := bs) (kvs := mapF (ksP m.made) (vaP m.made)) rfl rfl rfl rfl (fun x hx => hbc x hx) (Nat.le_refl _) rfl rfl ?_ ?_
    · intro i bb hi hb hns
      have hi2 : i < (ksP m.made).length := by simpa [mapF] using hi
      have hkv : (mapF (ksP m.made) (vaP m.made))[i]? = some (.str (ksP m.made)[i], vaP m.made (ksP m.made)[i]) := by simp [mapF, List.getElem?_eq_getElem hi2]
      have hbm : bb ∈ bs := List.mem_of_getElem? hb
      have hn2 : (sn ++ [bb]).Nodup := List.nodup_append.2 ⟨hs1, by simp, fun x hx y hy => by simp at hy; subst hy; exact fun e => hns (e ▸ hx)⟩
      have hm2 : ∀ x ∈ sn ++ [bb], x ∈ bs := fun x hx => by
        rcases List.mem_append.1 hx with hx | hx
        · exact hs2 x hx
        · simp at hx; subst hx; exact hbm
      have hlen2 := hnat _ hn2 hm2
      rw [List.length_append] at hlen2
      have hlen2 : sn.length + 1 ≤ bs.length := hlen2
      have hnext : ∀ bad' : Bool, bad' = (bad || hitM p (ksP m.made)[i]) → (bad' = true ↔ ∃ j, ∃ h : j < (ksP m.made).length, ∃ x ∈ sn ++ [bb], bs[j]? = some x ∧ hitM p (ksP m.made)[j] = true) := by
        rintro bad' rfl
        rw [Bool.or_eq_true, hs3]
        constructor
        · rintro (⟨j, hj, x, hx, h1, h2⟩ | h)
          · exact ⟨j, hj, x, List.mem_append_left _ hx, h1, h2⟩
          · exact ⟨i, hi2, bb, List.mem_append_right _ (List.mem_singleton.2 rfl), hb, h⟩
        · rintro ⟨j, hj, x, hx, h1, h2⟩
          rcases List.mem_append.1 hx with hx | hx
          · exact .inl ⟨j, hj, x, hx, h1, h2⟩
          · right
            obtain rfl := List.mem_singleton.1 hx
            have hjb : j < bs.length := by rw [hbl]; exact hj
            have : j = i := (List.getElem_inj (h₀ := hjb) (h₁ := by rw [hbl]; exact hi2) hbn).1 (by
              have q1 := h1; have q2 := hb
              rw [List.getElem?_eq_getElem hjb] at q1
              rw [List.getElem?_eq_getElem (by rw [hbl]; exact hi2)] at q2
              exact (Option.some.inj q1).trans (Option.some.inj q2).symm)
            subst this
            exact h2
      have hql := hq _ (List.getElem_mem hi2)
      generalize hqq : (ksP m.made)[i] = q at *
      have hM := Meets_ok q p (by omega) (by omega)
      cases bad with
      | true =>
        refine pa [.b true, .v (.tup [.str q, vaP m.made q]), .b true] rfl ?_ ?_
        · (repeat' with_reducible apply AllP_cons) <;> try exact aC
          · exact OpSpec.entryG (id := 9) (ver := 0) (mid := 1) (mver := b) (since := c0) (c := c0) (i := i) (b := bb) (seen := sn) (bs := bs) rfl rfl rfl rfl hb hkv
        exact S_round (sn ++ [bb], true) (by show bs.length - (sn ++ [bb]).length < bs.length - sn.length; rw [List.length_append]; show bs.length - (sn.length + 1) < _; omega) ⟨hn2, hm2, hnext true (by simp)⟩ (.cons rfl (.cons rfl (.cons rfl (.cons rfl (.cons rfl (.cons rfl (.nil _))))))) rfl
      | false =>
        by_cases hqp : q = p
        · have hne : (q != p) = false := by simp [hqp]
          have hh : hitM p q = false := by unfold hitM; rw [hne]; rfl
          refine pa [.b true, .v (.tup [.str q, vaP m.made q]), .b false, .b false] rfl ?_ ?_
          · (repeat' with_reducible apply AllP_cons) <;> try exact aC
            · exact OpSpec.entryG (id := 9) (ver := 0) (mid := 1) (mver := b) (since := c0) (c := c0) (i := i) (b := bb) (seen := sn) (bs := bs) rfl rfl rfl rfl hb hkv
          exact S_round (sn ++ [bb], false) (by show bs.length - (sn ++ [bb]).length < bs.length - sn.length; rw [List.length_append]; show bs.length - (sn.length + 1) < _; omega) ⟨hn2, hm2, hnext false (by rw [hh]; rfl)⟩ (.cons rfl (.cons rfl (.cons rfl (.cons rfl (.cons rfl (.cons rfl (.nil _))))))) rfl
        · have hne : (q != p) = true := by simpa using hqp
          have hh : hitM p q = meetT q p := by unfold hitM; rw [hne]; rfl
          refine pa [.b true, .v (.tup [.str q, vaP m.made q]), .b false, .b true, .v (.bool (meetT q p))] rfl ?_ ?_
          · (repeat' with_reducible apply AllP_cons) <;> try exact aC
            · exact OpSpec.entryG (id := 9) (ver := 0) (mid := 1) (mver := b) (since := c0) (c := c0) (i := i) (b := bb) (seen := sn) (bs := bs) rfl rfl rfl rfl hb hkv
            · exact ⟨_, hM, .cons (.refl .str) (.cons (.refl .str) (.nil _))⟩
          exact S_round (sn ++ [bb], meetT q p) (by show bs.length - (sn ++ [bb]).length < bs.length - sn.length; rw [List.length_append]; show bs.length - (sn.length + 1) < _; omega) ⟨hn2, hm2, hnext _ (by rw [hh]; rfl)⟩ (.cons rfl (.cons rfl (.cons rfl (.cons rfl (.cons rfl (.cons rfl (.nil _))))))) rfl
    · intro hall
      have hbad : bad = badM p m.made := by
        have : (bad = true) ↔ badM p m.made = true := by
          rw [hs3]
          unfold badM
          rw [List.any_eq_true]
          constructor
          · rintro ⟨i, hi, x, _, _, h⟩
            exact ⟨_, List.getElem_mem hi, h⟩
          · rintro ⟨q, hq1, h⟩
            obtain ⟨i, hi, rfl⟩ := List.getElem_of_mem hq1
            have hib : i < bs.length := by rw [hbl]; exact hi
            exact ⟨i, hi, bs[i], hall _ (List.getElem_mem hib), List.getElem?_eq_getElem hib, h⟩
        exact Bool.eq_iff_iff.2 this
      refine S_unstamp (id := 1) rfl ?_ ⟨.skip, _, .inr ⟨_, _, _, rfl⟩⟩
      refine S_drop (id := 9) rfl ?_ ⟨.skip, _, .inr ⟨_, _, _, rfl⟩⟩
      rw [hbad]
      refine S_heap (mcH a b c d e fs m (maB d p t run [(0, none)])) rfl ?_
      refine pB [.b false] rfl ?_
      have hlk : ∀ {n : Nat} {fr : Fr} {σ : Heap} {o : Oper} {mo key : Operand}, o.op = .lookup 51 mo key true → ev cx fr mo = .map 1 b → ev cx fr key = .str p → σ[1]? = some (b, mapBx (ksP m.made) (vaP m.made)) →
          OpSpec cx n fr σ o (.tup [filA (if p ∈ ksP m.made then lastF m.made p else ⟨[], [], false⟩), .bool (decide (p ∈ ksP m.made))]) σ := by
        intro n fr σ o mo key h1 h2 h3 h4
        refine OpSpec.mget (kt := 9) (et := 38) (ks := ksP m.made) (val := vaP m.made) (z := filA ⟨[], [], false⟩) (s := p) h1 (Tryz.underlying51) rfl h2 h3 h4 rfl ?_
        split <;> rfl
      obtain ⟨g, hg⟩ : ∃ g, g = if p ∈ ksP m.made then lastF m.made p else ⟨[], [], false⟩ := ⟨_, rfl⟩
      rw [← hg] at hlk
      refine S_drawC2 (mcH a b c d e fs m (maB d p t run [filBx 1 ⟨[], [], false⟩])) (mcH a b c d e fs m (maB d p t run [filBx 1 g])) 9 10 12 [] [.tup [filA g, .bool (decide (p ∈ ksP m.made))], .ptr 9 1 0, .tup []] rfl rfl rfl rfl rfl rfl rfl ?_ ?_
      · (repeat' with_reducible apply AllP_cons) <;> try exact aC
        all_goals first | exact hlk rfl rfl rfl rfl | exact OpSpec.aop rfl (by (repeat' with_reducible apply AllP_cons) <;> try exact aC)
      have hT := trip_ok a b c d e fs m 103 hm (maB d p t run [filBx 1 g])
      have hK := keep_ok a b c d e fs m t 87 [.ptr 6 0 0, .ptr 7 0 0, .ptr 8 0 0, .ptr 5 0 0] (fun m => { m with made := m.made ++ [⟨p, t, run⟩] }) (maB d p t run [filBx 1 g]) hm ht (make1_ok a b c d e fs _ p t run g)
      unfold makeM
      cases hb : badM p m.made with
      | true =>
        rw [if_pos (.inl rfl)]
        refine pB [.b true, .b true, .f (.tup []) (fun _ => mcH a b c d e fs (tripM 103 m) (maB d p t run [filBx 1 g]))] rfl ?_
        exact S_ret ⟨_, _, rfl, trivial, endT⟩
      | false =>
        by_cases hin : p ∈ ksP m.made
        · rw [if_neg (by rintro (h | h); cases h; exact h.1 hin), decide_eq_true hin]
          refine pB [.b false, .b false, .b false, .f (.tup []) (fun _ => mcH a b c d e fs (keepM t (fun m => { m with made := m.made ++ [⟨p, t, run⟩] }) m) (maB d p t run [filBx 1 g]))] rfl ?_
          exact S_nil ⟨_, _, rfl, trivial, endT⟩
        · rw [decide_eq_false hin]
          have hmf : (mapF (ksP m.made) (vaP m.made)).length = (ksP m.made).length := by unfold mapF; rw [List.length_map]
          by_cases h60 : (ksP m.made).length = 60
          · rw [if_pos (.inr ⟨hin, h60⟩)]
            refine pB [.b false, .b true, .b true, .f (.tup []) (fun _ => mcH a b c d e fs (tripM 103 m) (maB d p t run [filBx 1 g]))] rfl ?_
            exact S_ret ⟨_, _, rfl, trivial, endT⟩
          · rw [if_neg (by rintro (h | h); cases h; exact h60 h.2)]
            refine pB [.b false, .b true, .b false, .f (.tup []) (fun _ => mcH a b c d e fs (keepM t (fun m => { m with made := m.made ++ [⟨p, t, run⟩] }) m) (maB d p t run [filBx 1 g]))] rfl ?_
            exact S_nil ⟨_, _, rfl, trivial, endT⟩) (by intro x hx; simp at hx; rcases hx with rfl | rfl | rfl; exact .str; exact .str; exact .bool) (.tup (by simp))
theorem st8_ok (fs : List Fil) (p r : List UInt8) (ns : List Nat) (hp : p.length ≤ 10000000) : ∀ (a b c d e : Nat) (m : Mc) (τ : Heap), McOk m → (∀ q ∈ ksP m.made, q.length ≤ 10000000) →
    CallOk cx 53 [.ptr 3 d 0, lnA ⟨kMake, [p, r], ns⟩] (mcH a b c d e fs m τ) (fun o s => o = .ret (.tup []) ∧ s = mcH a b c d e fs (makeM p (m.regs r) false m) τ) := fun a b c d e m τ hm hq =>
  mcH_tail τ (callOk_introT (fun a w => Tryz.call53 a w) Tryz.func53 rfl Tryz.ntmps53 rfl fun B => by
    have hl := hm.len r
    have h := make_ok a b c d e fs m p (m.regs r) false hm.left (by omega) hp hq [lnB ⟨kMake, [p, r], ns⟩]
    refine pa [.v (.str p), .v (.str r), .v (.str (m.regs r)), .f (.tup []) (fun _ => mcH a b c d e fs (makeM p (m.regs r) false m) [lnB ⟨kMake, [p, r], ns⟩])] rfl ?_ ?_
    · (repeat' with_reducible apply AllP_cons) <;> try exact aC
      all_goals first | exact get_reg hm.reg rfl rfl rfl rfl | skip
    exact S_nil ⟨_, _, rfl, trivial, endT⟩) (by intro y hy; simp at hy; subst hy; exact lnA_free _) (.tup (by simp))
theorem st9_ok (fs : List Fil) (p r : List UInt8) (ns : List Nat) (hp : p.length ≤ 10000000) : ∀ (a b c d e : Nat) (m : Mc) (τ : Heap), McOk m → (∀ q ∈ ksP m.made, q.length ≤ 10000000) →
    CallOk cx 55 [.ptr 3 d 0, lnA ⟨kRun, [p, r], ns⟩] (mcH a b c d e fs m τ) (fun o s => o = .ret (.tup []) ∧ s = mcH a b c d e fs (makeM p (m.regs r) true m) τ) := fun a b c d e m τ hm hq =>
  mcH_tail τ (callOk_introT (fun a w => Tryz.call55 a w) Tryz.func55 rfl Tryz.ntmps55 rfl fun B => by
    have hl := hm.len r
    have h := make_ok a b c d e fs m p (m.regs r) true hm.left (by omega) hp hq [lnB ⟨kRun, [p, r], ns⟩]
    refine pa [.v (.str p), .v (.str r), .v (.str (m.regs r)), .f (.tup []) (fun _ => mcH a b c d e fs (makeM p (m.regs r) true m) [lnB ⟨kRun, [p, r], ns⟩])] rfl ?_ ?_
    · (repeat' with_reducible apply AllP_cons) <;> try exact aC
      all_goals first | exact get_reg hm.reg rfl rfl rfl rfl | skip
    exact S_nil ⟨_, _, rfl, trivial, endT⟩) (by intro y hy; simp at hy; subst hy; exact lnA_free _) (.tup (by simp))
end Go.Proofs.YtgmakmfdjhgjlaaGreatDoor
end
section
set_option linter.unusedVariables false
set_option linter.unusedSimpArgs false
set_option maxRecDepth 20000
set_option maxHeartbeats 4000000
namespace Go.Proofs.YtgmakmfdjhgjlaaGreatDoor
open Go Go.Ab
theorem regB_c (c : UInt8) : regB [c] = (decide (97 ≤ c.toNat) && decide (c.toNat ≤ 104)) := by
  unfold regB
  simp only [UInt8.le_iff_toNat_le]
  rfl
theorem isRegister_ok (s : List UInt8) (hs : s.length ≤ 1000000000) : Calc cx 76 [.str s] (.bool (regB s)) :=
  pure_intro (fun a w => Tryz.call76 a w) Tryz.func76 rfl Tryz.ntmps76 rfl .bool fun B => by
    match s, hs with
    | [], _ =>
      refine pB [.b false, .b false] rfl ?_
      exact S_retc .bool rfl trivial rfl
    | c :: c2 :: r, _ =>
      have e1 : ((((c :: c2 :: r).length : Nat) : Int) == 1) = false := by simp; omega
      refine pB [.b false, .b false] rfl ?_
      exact S_retc .bool rfl trivial rfl
    | [c], _ =>
      rw [regB_c]
      by_cases h1 : 97 ≤ c.toNat
      · rw [decide_eq_true h1]
        by_cases h2 : c.toNat ≤ 104
        · rw [decide_eq_true h2]
          refine pa [.b true, .b true] rfl ?_ ?_
          · (repeat' with_reducible apply AllP_cons) <;> try exact aC
            exact decide_eq_true (show (c.toNat : Int) ≥ 97 by omega)
          refine S_retc .bool rfl trivial ?_
          show AV.bool (decide ((c.toNat : Int) ≤ 104)) = _
          rw [decide_eq_true (by omega)]; rfl
        · rw [decide_eq_false h2]
          refine pa [.b true, .b true] rfl ?_ ?_
          · (repeat' with_reducible apply AllP_cons) <;> try exact aC
            exact decide_eq_true (show (c.toNat : Int) ≥ 97 by omega)
          refine S_retc .bool rfl trivial ?_
          show AV.bool (decide ((c.toNat : Int) ≤ 104)) = _
          rw [decide_eq_false (by omega)]; rfl
      · rw [decide_eq_false h1]
        refine pa [.b true, .b false] rfl ?_ ?_
        · (repeat' with_reducible apply AllP_cons) <;> try exact aC
          exact decide_eq_false (show ¬ (c.toNat : Int) ≥ 97 by omega)
        exact S_retc .bool rfl trivial rfl
def numB (s : List UInt8) : Bool := s.all digB && (s != []) && decide (s.length ≤ 6) && !(decide (1 < s.length) && s.head? == some 48)
def numV (s : List UInt8) : Nat := if numB s then valN s else 0
theorem numB_iff (s : List UInt8) : numB s = true ↔ s.all digB = true ∧ s ≠ [] ∧ s.length ≤ 6 ∧ ¬ (1 < s.length ∧ s.head? = some 48) := by
  unfold numB
  simp only [Bool.and_eq_true, bne_iff_ne, decide_eq_true_eq, Bool.not_eq_true', Bool.and_eq_false_iff, decide_eq_false_iff_not, beq_eq_false_iff_ne, ne_eq]
  constructor
  · rintro ⟨⟨⟨a, b⟩, c⟩, d⟩
    exact ⟨a, b, c, fun ⟨e, f⟩ => d.elim (fun h => h e) (fun h => h f)⟩
  · rintro ⟨a, b, c, d⟩
    refine ⟨⟨⟨a, b⟩, c⟩, ?_⟩
    by_cases h : 1 < s.length
    · exact .inr fun e => d ⟨h, e⟩
    · exact .inl h
theorem numT_eq (s : List UInt8) (most : Nat) : numT s most = if numB s = true ∧ numV s ≤ most then some (numV s) else none := by
  unfold numT numV
  by_cases h : numB s = true
  · have h' := (numB_iff s).1 h
    simp only [h, if_true, true_and]
    by_cases hm : valN s ≤ most
    · rw [if_pos ⟨h'.1, h'.2.1, h'.2.2.1, h'.2.2.2, hm⟩, if_pos hm]
    · rw [if_neg (fun x => hm x.2.2.2.2), if_neg hm]
  · rw [if_neg (fun x => h ((numB_iff s).2 ⟨x.1, x.2.1, x.2.2.1, x.2.2.2.1⟩)), if_neg (fun x => h x.1)]
theorem valN_snoc (s : List UInt8) (c : UInt8) : valN (s ++ [c]) = 10 * valN s + (c.toNat - 48) := by
  unfold valN; rw [List.foldl_append]; rfl
theorem digB_iff (c : UInt8) : digB c = true ↔ 48 ≤ c.toNat ∧ c.toNat ≤ 57 := by
  unfold digB
  simp only [UInt8.le_iff_toNat_le, Bool.and_eq_true, decide_eq_true_eq]
  rfl
theorem valN_lt : ∀ (n : Nat) (s : List UInt8), s.length = n → s.all digB = true → valN s < 10 ^ n
  | 0, s, h, _ => by
    have : s = [] := List.length_eq_zero_iff.1 h
    subst this; decide
  | n + 1, s, h, hd => by
    have hne : s ≠ [] := by rintro rfl; simp at h
    obtain ⟨r, c, rfl⟩ : ∃ r c, s = r ++ [c] := ⟨s.dropLast, s.getLast hne, (List.dropLast_concat_getLast hne).symm⟩
    rw [List.all_append, Bool.and_eq_true] at hd
    have h1 := valN_lt n r (by simpa using h) hd.1
    have h2 := (digB_iff c).1 (by simpa using hd.2)
    rw [valN_snoc, Nat.pow_succ]
    omega
theorem valN_len {s : List UInt8} (h : s.all digB = true) (hl : s.length ≤ 6) : valN s < 1000000 :=
  Nat.lt_of_lt_of_le (valN_lt _ s rfl h) (Nat.pow_le_pow_right (n := 10) (by omega) hl)
theorem atoiI_ok (s : List UInt8) (h0 : s ≠ []) (hl : s.length ≤ 6) (hd : s.all digB = true) : Calc cx 123 [.str s] (.tup [.int .i64 (valN s : Nat), .nili]) :=
  pure_intro (fun a w => Tryz.call123 a w) Tryz.func123 rfl Tryz.ntmps123 rfl (.tup (by intro x hx; simp at hx; rcases hx with rfl | rfl; exact .int; exact .nili)) fun B => by
    have hpos : 0 < s.length := List.length_pos_iff.2 h0
    have hat : ∀ i (h : i < s.length), 48 ≤ s[i].toNat ∧ s[i].toNat ≤ 57 := fun i h => (digB_iff _).1 (List.all_eq_true.1 hd _ (List.getElem_mem h))
    have hc0 := hat 0 hpos
    have hg0 : s.getD (Int.toNat 0) 0 = s[0] := by show s.getD 0 0 = _; simp [List.getD, List.getElem?_eq_getElem hpos]
    refine pa [.b false, .b false, .b true, .b true, .b true, .b false, .b false] rfl ?_ ?_
    · (repeat' with_reducible apply AllP_cons) <;> try exact aC
      all_goals rw [hg0]
      · simpa using (show ¬ ((s[0].toNat : Nat) : Int) = 45 by omega)
      · simpa using (show ¬ ((s[0].toNat : Nat) : Int) = 43 by omega)
    refine S_while (α := Nat) (fun i => [(0, .str s), (5, .str s), (6, .int .i64 (valN (s.take i) : Nat)), (47, .sl true false 1 (s.map byteAV)), (48, .int .i64 (((s.map byteAV).length : Nat) : Int)), (49, .int .i64 (i : Nat))]) (fun _ => []) (fun i => i ≤ s.length) (fun i => s.length - i) 0
      (Nat.zero_le _) (.cons rfl (.cons rfl (.cons rfl (.cons rfl (.cons rfl (.cons rfl (.nil _))))))) rfl ?_
    intro i hi
    have hi : i ≤ s.length := hi
    have hml : (s.map byteAV).length = s.length := List.length_map ..
    have hvi : valN (s.take i) < 1000000 := valN_len (by
      rw [List.all_eq_true]; intro x hx; exact List.all_eq_true.1 hd _ (List.mem_of_mem_take hx)) (by rw [List.length_take]; omega)
    by_cases hlt : i < s.length
    · have e1 : decide ((i : Int) < (((s.map byteAV).length : Nat) : Int)) = true := decide_eq_true (by omega)
      have g1 : (s.map byteAV)[(i : Int).toNat]? = some (byteAV s[i]) := by rw [Int.toNat_natCast]; simp [List.getElem?_eq_getElem hlt]
      have hci := hat i hlt
      have hw : IntKind.u8.wrap (((s[i].toNat : Nat) : Int) - 48) = ((s[i].toNat - 48 : Nat) : Int) := by
        rw [IntWalk.u8_in _ ⟨by omega, by omega⟩]; omega
      have e2 : decide (IntKind.u8.wrap (((s[i].toNat : Nat) : Int) - 48) > 9) = false := by rw [hw]; exact decide_eq_false (by omega)
      refine pB [.b true, .v (byteAV s[i]), .b false] rfl ?_
      have hv : valN (s.take (i + 1)) = 10 * valN (s.take i) + (s[i].toNat - 48) := by rw [List.take_succ_eq_append_getElem hlt, valN_snoc]
      refine S_round (i + 1) (by show s.length - (i + 1) < s.length - i; omega) hlt (.cons rfl (.cons rfl (.cons ?_ (.cons rfl (.cons rfl (.cons (nX (by omega)) (.nil _))))))) rfl
      show AV.int .i64 (IntKind.i64.wrap (IntKind.i64.wrap (((valN (s.take i) : Nat) : Int) * 10) + IntKind.i64.wrap (IntKind.u8.wrap (((s[i].toNat : Nat) : Int) - 48)))) = _
      rw [hw, IntWalk.i64_in (((valN (s.take i) : Nat) : Int) * 10) ⟨by omega, by omega⟩, IntWalk.i64_in ((s[i].toNat - 48 : Nat) : Int) ⟨by omega, by omega⟩, IntWalk.i64_in _ ⟨by omega, by omega⟩, hv]
      congr 1; omega
    · have e1 : decide ((i : Int) < (((s.map byteAV).length : Nat) : Int)) = false := decide_eq_false (by omega)
      obtain rfl : i = s.length := by omega
      rw [List.take_length]
      refine pa [.b false, .b false] rfl ?_ ?_
      · (repeat' with_reducible apply AllP_cons) <;> try exact aC
        rw [hg0]
        simpa using (show ¬ ((s[0].toNat : Nat) : Int) = 45 by omega)
      exact S_retc (.tup (by intro x hx; simp at hx; rcases hx with rfl | rfl; exact .int; exact .nili)) rfl trivial rfl
theorem Atoi_ok (s : List UInt8) (h0 : s ≠ []) (hl : s.length ≤ 6) (hd : s.all digB = true) : Calc cx 102 [.str s] (.tup [.int .i64 (valN s : Nat), .nili]) :=
  pure_intro (fun a w => Tryz.call102 a w) Tryz.func102 rfl Tryz.ntmps102 rfl (.tup (by intro x hx; simp at hx; rcases hx with rfl | rfl; exact .int; exact .nili)) fun B => by
    have h := atoiI_ok s h0 hl hd
    refine pa [.v (.tup [.int .i64 (valN s : Nat), .nili]), .b false] rfl ?_ ?_
    · (repeat' with_reducible apply AllP_cons) <;> try exact aC
      · exact ⟨_, h, .cons (.refl .str) (.nil _)⟩
    exact S_retc (.tup (by intro x hx; simp at hx; rcases hx with rfl | rfl; exact .int; exact .nili)) rfl trivial rfl
def nmrAV (s : List UInt8) (most : Int) : AV := .tup [.int .i64 (numV s : Nat), .bool (numB s && decide (((numV s : Nat) : Int) ≤ most))]
theorem nmrAV_free (s : List UInt8) (most : Int) : Free true (nmrAV s most) := .tup (by intro x hx; simp at hx; rcases hx with rfl | rfl; exact .int; exact .bool)
theorem nmbr_ok (s : List UInt8) (most : Int) (hs : s.length ≤ 1000000000) : Calc cx 77 [.str s, .int .i64 most] (nmrAV s most) :=
  pure_intro (fun a w => Tryz.call77 a w) Tryz.func77 rfl Tryz.ntmps77 rfl (nmrAV_free s most) fun B => by
    have hno : numB s = false → AV.tup [.int .i64 0, .bool false] = nmrAV s most := fun h => by unfold nmrAV numV; rw [h]; rfl
    refine pB [] rfl ?_
    refine S_while (α := Nat) (fun i => [(0, .str s), (1, .int .i64 most), (11, .ptr 0 0 0)]) (fun i => [(0, some (.siter s i))]) (fun i => i ≤ s.length ∧ (s.take i).all digB = true) (fun i => s.length - i) 0
      ⟨Nat.zero_le _, rfl⟩ (.cons rfl (.cons rfl (.cons rfl (.nil _)))) rfl ?_
    rintro i ⟨hi, hN⟩
    have hi : i ≤ s.length := hi
    refine pB [] rfl ?_
    refine S_next rfl rfl rfl rfl rfl (fun hil => ?_) (fun hge => ?_)
    · obtain ⟨r, wd, hrw, hdg, hwd⟩ : ∃ (r wd : Nat), decL s i = (r, wd) ∧ (digB s[i] = true ↔ 48 ≤ r ∧ r ≤ 57) ∧ (digB s[i] = true → wd = 1) := by
        by_cases hc : s[i].toNat < 128
        · exact ⟨_, _, decL_lt hil hc, digB_iff _, fun _ => rfl⟩
        · have h1 := decL_ge hil (by omega)
          have h2 : ¬ digB s[i] = true := fun h => by have := (digB_iff _).1 h; omega
          obtain ⟨q1, q2, hq⟩ : ∃ a b, decL s i = (a, b) := ⟨_, _, rfl⟩
          rw [hq] at h1
          have h1 : 128 ≤ q1 := h1
          exact ⟨q1, q2, hq, ⟨fun h => absurd h h2, fun h => by omega⟩, fun h => absurd h h2⟩
      rw [hrw]
      by_cases hd : digB s[i] = true
      · have hr := hdg.1 hd
        obtain rfl := hwd hd
        refine pB [.b true, .b false, .b false] rfl ?_
        exact S_round (i + 1) (by show s.length - (i + 1) < s.length - i; omega) ⟨hil, takeN hil hN hd⟩ (.cons rfl (.cons rfl (.cons rfl (.nil _)))) rfl
      · have hnb : numB s = false := by
          cases hb : numB s with
          | false => rfl
          | true => exact absurd (List.all_eq_true.1 ((numB_iff s).1 hb).1 _ (List.getElem_mem hil)) hd
        rw [← hno hnb]
        have hf : Free true (AV.tup [.int .i64 0, .bool false]) := .tup (by intro x hx; simp at hx; rcases hx with rfl | rfl; exact .int; exact .bool)
        by_cases h48 : r < 48
        · refine pB [.b true, .b true, .b true] rfl ?_
          exact S_retc hf rfl trivial rfl
        · have h57 : 57 < r := by
            rcases Nat.lt_or_ge 57 r with h | h
            · exact h
            · exact absurd (hdg.2 ⟨by omega, h⟩) hd
          refine pB [.b true, .b false, .b true] rfl ?_
          exact S_retc hf rfl trivial rfl
    · have hall : s.all digB = true := by rw [List.take_of_length_le (by omega)] at hN; exact hN
      have hf : Free true (AV.tup [.int .i64 0, .bool false]) := .tup (by intro x hx; simp at hx; rcases hx with rfl | rfl; exact .int; exact .bool)
      by_cases h0 : s = []
      · subst h0
        rw [← hno rfl]
        refine pB [.b false, .b true, .b true, .b true] rfl ?_
        exact S_retc hf rfl trivial rfl
      have hse : (s == []) = false := by simpa using h0
      have hpos : 0 < s.length := List.length_pos_iff.2 h0
      by_cases h6 : 6 < s.length
      · have hnb : numB s = false := by
          cases hb : numB s with
          | false => rfl
          | true => have := ((numB_iff s).1 hb).2.2.1; omega
        rw [← hno hnb]
        refine pB [.b false, .b false, .b true, .b true] rfl ?_
        exact S_retc hf rfl trivial rfl
      have hg0 : s.getD (Int.toNat 0) 0 = s[0] := by show s.getD 0 0 = _; simp [List.getD, List.getElem?_eq_getElem hpos]
      have hhd : s.head? = some s[0] := by rw [List.head?_eq_getElem?, List.getElem?_eq_getElem hpos]
      have go : numB s = true → ∀ (K : List Ht), AV.tup [.int .i64 ((valN s : Nat) : Int), .bool (decide (((valN s : Nat) : Int) ≤ most))] = nmrAV s most := fun h K => by
        unfold nmrAV numV; rw [h, if_pos rfl, Bool.true_and]
      have hA := Atoi_ok s h0 (by omega) hall
      by_cases h1 : 1 < s.length
      · by_cases hz : s[0] = 48
        · have hnb : numB s = false := by
            cases hb : numB s with
            | false => rfl
            | true => exact absurd ⟨h1, by rw [hhd, hz]⟩ ((numB_iff s).1 hb).2.2.2
          rw [← hno hnb]
          refine pa [.b false, .b false, .b false, .b true, .b true] rfl ?_ ?_
          · (repeat' with_reducible apply AllP_cons) <;> try exact aC
            all_goals first | (rw [hg0, hz]; rfl) | skip
          exact S_retc hf rfl trivial rfl
        · have hnb : numB s = true := (numB_iff s).2 ⟨hall, h0, by omega, fun h => hz (by have := h.2; rw [hhd] at this; exact Option.some.inj this)⟩
          have hz' : ((((s.getD (Int.toNat 0) 0).toNat : Nat) : Int) == 48) = false := by
            rw [hg0]
            have : ¬ s[0].toNat = 48 := fun h => hz (UInt8.toNat_inj.1 h)
            simpa using (show ¬ ((s[0].toNat : Nat) : Int) = 48 by omega)
          refine pa [.b false, .b false, .b false, .b true, .b false, .v (.tup [.int .i64 (valN s : Nat), .nili])] rfl ?_ ?_
          · (repeat' with_reducible apply AllP_cons) <;> try exact aC
            all_goals first | exact hz' | exact ⟨_, hA, .cons (.refl .str) (.nil _)⟩
          exact S_retc (nmrAV_free s most) rfl trivial (go hnb [])
      · have hnb : numB s = true := (numB_iff s).2 ⟨hall, h0, by omega, fun h => h1 h.1⟩
        refine pa [.b false, .b false, .b false, .b false, .b false, .v (.tup [.int .i64 (valN s : Nat), .nili])] rfl ?_ ?_
        · (repeat' with_reducible apply AllP_cons) <;> try exact aC
          all_goals first | exact ⟨_, hA, .cons (.refl .str) (.nil _)⟩
        exact S_retc (nmrAV_free s most) rfl trivial (go hnb [])
end Go.Proofs.YtgmakmfdjhgjlaaGreatDoor
end
section
set_option linter.unusedVariables false
set_option linter.unusedSimpArgs false
namespace Go.Ab
open Go
section
variable {cx : Cx} {n : Nat} {B : Bs} {k : List AI} {Q : Post} {fr : Fr} {σ : Heap}
theorem OpSpec.insert {o : Oper} {t : TypeId} {m key x : Operand} {v : AV} {σ' : Heap} (ho : o.op = .insert t m key x) (h : OpSpec cx n fr σ { o with op := .mapUpdate t m key x } v σ') : OpSpec cx n fr σ o v σ' := by
  intro r a w hi hf
  have h1 := h r a w hi hf
  have : execOp a.eval o = execOp a.eval { o with op := .mapUpdate t m key x } := by
    obtain ⟨d, op, ty, ps, af, g⟩ := o
    simp only at ho
    subst ho
    rfl
  rw [this]
  exact h1
theorem OpSpec.insertN {o : Oper} {t : TypeId} {m key x : Operand} {σ' : Heap} {C : List Prop} (ho : o.op = .insert t m key x) (h : mapA cx fr σ (.mapUpdate t m key x) none = some (C, .tup [], σ')) (hC : AllP C) : OpSpec cx n fr σ o (.tup []) σ' :=
  OpSpec.insert ho (OpSpec.map none h hC)
end
end Go.Ab
end
section
set_option linter.unusedVariables false
set_option linter.unusedSimpArgs false
set_option maxRecDepth 20000
set_option maxHeartbeats 4000000
namespace Go.Proofs.YtgmakmfdjhgjlaaGreatDoor
open Go Go.Ab
def fmKV : List (AV × AV) := formL.map fun p => (.str p.1, .str p.2)
def stKV : List (AV × AV) := [(.str kSet, .func (.func 41) [] []), (.str kRead, .func (.func 43) [] []), (.str kList, .func (.func 45) [] []), (.str kJoin, .func (.func 47) [] []), (.str kCut, .func (.func 48) [] []), (.str kSize, .func (.func 49) [] []), (.str kSum, .func (.func 51) [] []), (.str kMake, .func (.func 53) [] []), (.str kRun, .func (.func 55) [] []), (.str kSame, .func (.func 56) [] []), (.str kLess, .func (.func 58) [] []), (.str kGoto, .func (.func 59) [] []), (.str kExit, .func (.func 60) [] [])]
theorem steps_ok (a b c d e : Nat) (fs : List Fil) (m : Mc) (bv : Nat) (bx : Box) (v : Nat) :
    CallOk cx 25 [] (mcH a b c d e fs m [(bv, some bx), (v, none)]) (fun o s => o = .ret (.map 6 (v + 1)) ∧ s = mcH a b c d e fs m [(bv, some bx), (v + 1, some (.map stKV none))]) :=
  callOk_intro (fun a w => Tryz.call25 a w) Tryz.func25 rfl Tryz.ntmps25 rfl fun B => by
    refine pa [.f (.map 6 (v + 1)) (fun _ => mcH a b c d e fs m [(bv, some bx), (v + 1, some (.map [] (some ([], 0))))]), .s] rfl ?_ ?_
    · (repeat' with_reducible apply AllP_cons) <;> try exact aC
      · exact OpSpec.mapN (C := []) rfl trivial
    refine S_unstamp (id := 6) rfl ?_ ⟨.skip, _, .inr ⟨_, _, _, rfl⟩⟩
    refine pa [.f (.tup []) (fun _ => mcH a b c d e fs m [(bv, some bx), (v + 1, some (.map (stKV.take 1) none))]), .f (.tup []) (fun _ => mcH a b c d e fs m [(bv, some bx), (v + 1, some (.map (stKV.take 2) none))]), .f (.tup []) (fun _ => mcH a b c d e fs m [(bv, some bx), (v + 1, some (.map (stKV.take 3) none))]), .f (.tup []) (fun _ => mcH a b c d e fs m [(bv, some bx), (v + 1, some (.map (stKV.take 4) none))]), .f (.tup []) (fun _ => mcH a b c d e fs m [(bv, some bx), (v + 1, some (.map (stKV.take 5) none))]), .f (.tup []) (fun _ => mcH a b c d e fs m [(bv, some bx), (v + 1, some (.map (stKV.take 6) none))]), .f (.tup []) (fun _ => mcH a b c d e fs m [(bv, some bx), (v + 1, some (.map (stKV.take 7) none))]), .f (.tup []) (fun _ => mcH a b c d e fs m [(bv, some bx), (v + 1, some (.map (stKV.take 8) none))]), .f (.tup []) (fun _ => mcH a b c d e fs m [(bv, some bx), (v + 1, some (.map (stKV.take 9) none))]), .f (.tup []) (fun _ => mcH a b c d e fs m [(bv, some bx), (v + 1, some (.map (stKV.take 10) none))]), .f (.tup []) (fun _ => mcH a b c d e fs m [(bv, some bx), (v + 1, some (.map (stKV.take 11) none))]), .f (.tup []) (fun _ => mcH a b c d e fs m [(bv, some bx), (v + 1, some (.map (stKV.take 12) none))]), .f (.tup []) (fun _ => mcH a b c d e fs m [(bv, some bx), (v + 1, some (.map (stKV.take 13) none))])] rfl ?_ ?_
    · (repeat' with_reducible apply AllP_cons) <;> try exact aC
      all_goals exact OpSpec.insertN (C := [v + 1 = v + 1, _]) rfl rfl ⟨rfl, rfl, trivial⟩
    exact S_ret ⟨_, _, rfl, trivial, rfl, rfl⟩
end Go.Proofs.YtgmakmfdjhgjlaaGreatDoor
end
section
set_option linter.unusedVariables false
set_option linter.unusedSimpArgs false
set_option maxRecDepth 20000
set_option maxHeartbeats 4000000
namespace Go.Proofs.YtgmakmfdjhgjlaaGreatDoor
open Go Go.Ab
def fmKs : List (List UInt8) := formL.map Prod.fst
def fmV (k : List UInt8) : List UInt8 := (formT' k).getD []
theorem fmKV_eq : fmKV = mapF fmKs (fun k => .str (fmV k)) := by
  unfold fmKV fmKs mapF
  rw [List.map_map]
  refine List.map_congr_left fun p hp => ?_
  have : formL.all (fun p => decide (fmV p.1 = p.2)) = true := by decide
  have := of_decide_eq_true (List.all_eq_true.1 this p hp)
  simp [this]
theorem fm_mem (k : List UInt8) : decide (k ∈ fmKs) = (formT' k).isSome := by
  unfold formT' fmKs
  rw [Option.isSome_map, Bool.eq_iff_iff, decide_eq_true_eq, List.find?_isSome, List.mem_map]
  simp
theorem fm_no {k : List UInt8} (h : k ∉ fmKs) : fmV k = [] := by
  have := fm_mem k
  rw [decide_eq_false h] at this
  unfold fmV
  cases hq : formT' k with
  | none => rfl
  | some f => rw [hq] at this; cases this
theorem forms_ok (rv : Nat) (bx : Box) :
    CallOk cx 75 [] [(rv, some bx)] (fun o s => o = .ret (.map 1 0) ∧ s = [(rv, some bx), (0, some (.map (mapF fmKs fun k => .str (fmV k)) none))]) :=
  callOk_intro (fun a w => Tryz.call75 a w) Tryz.func75 rfl Tryz.ntmps75 rfl fun B => by
    rw [← fmKV_eq]
    refine pa [.f (.map 1 0) (fun _ => [(rv, some bx), (0, some (.map [] (some ([], 0))))]), .s] rfl ?_ ?_
    · (repeat' with_reducible apply AllP_cons) <;> try exact aC
      · exact OpSpec.mapN (C := []) rfl trivial
    refine S_unstamp (id := 1) rfl ?_ ⟨.skip, _, .inr ⟨_, _, _, rfl⟩⟩
    refine pa [.f (.tup []) (fun _ => [(rv, some bx), (0, some (.map (fmKV.take 1) none))]), .f (.tup []) (fun _ => [(rv, some bx), (0, some (.map (fmKV.take 2) none))]), .f (.tup []) (fun _ => [(rv, some bx), (0, some (.map (fmKV.take 3) none))]), .f (.tup []) (fun _ => [(rv, some bx), (0, some (.map (fmKV.take 4) none))]), .f (.tup []) (fun _ => [(rv, some bx), (0, some (.map (fmKV.take 5) none))]), .f (.tup []) (fun _ => [(rv, some bx), (0, some (.map (fmKV.take 6) none))]), .f (.tup []) (fun _ => [(rv, some bx), (0, some (.map (fmKV.take 7) none))]), .f (.tup []) (fun _ => [(rv, some bx), (0, some (.map (fmKV.take 8) none))]), .f (.tup []) (fun _ => [(rv, some bx), (0, some (.map (fmKV.take 9) none))]), .f (.tup []) (fun _ => [(rv, some bx), (0, some (.map (fmKV.take 10) none))]), .f (.tup []) (fun _ => [(rv, some bx), (0, some (.map (fmKV.take 11) none))]), .f (.tup []) (fun _ => [(rv, some bx), (0, some (.map (fmKV.take 12) none))]), .f (.tup []) (fun _ => [(rv, some bx), (0, some (.map (fmKV.take 13) none))])] rfl ?_ ?_
    · (repeat' with_reducible apply AllP_cons) <;> try exact aC
      all_goals exact OpSpec.insertN (C := [0 = 0, _]) rfl rfl ⟨rfl, rfl, trivial⟩
    exact S_ret ⟨_, _, rfl, trivial, rfl, rfl⟩
def wordN (c : UInt8) (w : List UInt8) (lines : Nat) : Nat :=
  if c = 110 ∨ c = 108 ∨ c = 101 then numV w else 0
theorem wordN_of {c : UInt8} {w : List UInt8} {lines n : Nat} (h : wordT c w lines = some n) : wordN c w lines = n := by
  unfold wordT at h
  unfold wordN
  split at h
  · rename_i e; subst e
    split at h
    · cases h; rfl
    · cases h
  split at h
  · rename_i e; subst e
    split at h
    · cases h; rfl
    · cases h
  split at h
  · rename_i e; subst e
    split at h
    · cases h; rfl
    · cases h
  split at h
  · rename_i e; subst e
    rw [if_pos (.inl rfl)]
    rw [numT_eq] at h
    split at h
    · exact Option.some.inj h
    · cases h
  split at h
  · rename_i e; subst e
    rw [if_pos (.inr (.inl rfl))]
    rw [numT_eq] at h
    split at h
    · exact Option.some.inj h
    · cases h
  split at h
  · rename_i e; subst e
    rw [if_pos (.inr (.inr rfl))]
    rw [numT_eq] at h
    split at h
    · exact Option.some.inj h
    · cases h
  · rename_i a1 a2 a3 a4 a5 a6
    rw [if_neg (by rintro (e | e | e); exact a4 e; exact a5 e; exact a6 e)]
    exact Option.some.inj h
def wordsP (lines : Nat) : List UInt8 → List (List UInt8) → List Nat × Bool
  | c :: f, w :: ws => if (wordT c w lines).isSome then (wordN c w lines :: (wordsP lines f ws).1, (wordsP lines f ws).2) else ([], false)
  | _, _ => ([], true)
theorem wordsP_T (lines : Nat) : ∀ (f : List UInt8) (ws : List (List UInt8)), f.length = ws.length → wordsT lines f ws = if (wordsP lines f ws).2 then some (wordsP lines f ws).1 else none
  | [], [], _ => rfl
  | c :: f, w :: ws, h => by
    have ih := wordsP_T lines f ws (by simpa using h)
    rw [wordsT, wordsP]
    cases hq : wordT c w lines with
    | none => rfl
    | some n =>
      have := wordN_of hq
      show (wordsT lines f ws).map (n :: ·) = if (if true = true then _ else _ : List Nat × Bool).2 = true then _ else _
      rw [if_pos rfl, ih, this]
      split <;> rfl
  | [], _ :: _, h => by simp at h
  | _ :: _, [], h => by simp at h
theorem wordsT_len (lines : Nat) : ∀ (f : List UInt8) (ws : List (List UInt8)), f.length ≠ ws.length → wordsT lines f ws = none
  | [], [], h => absurd rfl h
  | c :: f, w :: ws, h => by
    rw [wordsT, wordsT_len lines f ws (by simpa using h)]
    cases wordT c w lines <;> rfl
  | [], _ :: _, _ => rfl
  | _ :: _, [], _ => rfl
def readP (lines : Nat) (s : List UInt8) : Ln × Bool :=
  match formT' (fst32 s) with
  | none => (⟨fst32 s, [], []⟩, false)
  | some f =>
    if f = [114, 116] then (⟨fst32 s, [fst32 (rst32 s), rst32 (rst32 s)], []⟩, (rst32 s).contains 32 && regB (fst32 (rst32 s)))
    else if (splitB 32 (rst32 s)).length ≠ f.length then (⟨fst32 s, splitB 32 (rst32 s), []⟩, false)
    else (⟨fst32 s, splitB 32 (rst32 s), (wordsP lines f (splitB 32 (rst32 s))).1⟩, (wordsP lines f (splitB 32 (rst32 s))).2)
theorem readP_ln (lines : Nat) (s : List UInt8) : lnOf lines s = if (readP lines s).2 then some (readP lines s).1 else none := by
  unfold lnOf readP
  cases formT' (fst32 s) with
  | none => rfl
  | some f =>
    show (if f = [114, 116] then _ else _ : Option Ln) = if (if f = [114, 116] then _ else _ : Ln × Bool).2 = true then some (if f = [114, 116] then _ else _ : Ln × Bool).1 else none
    by_cases h1 : f = [114, 116]
    · simp only [if_pos h1]
    · simp only [if_neg h1]
      by_cases h2 : (splitB 32 (rst32 s)).length ≠ f.length
      · rw [if_pos h2, wordsT_len lines f _ (fun e => h2 e.symm)]; rfl
      · rw [if_neg h2, wordsP_T lines f _ (by omega)]
        simp only
        split <;> rfl
end Go.Proofs.YtgmakmfdjhgjlaaGreatDoor
end
section
set_option linter.unusedVariables false
set_option linter.unusedSimpArgs false
set_option maxRecDepth 20000
set_option maxHeartbeats 4000000
namespace Go.Proofs.YtgmakmfdjhgjlaaGreatDoor
open Go Go.Ab
def rdAV (lines : Nat) (s : List UInt8) : AV := .tup [lnA (readP lines s).1, .bool (readP lines s).2]
theorem rdAV_free (lines : Nat) (s : List UInt8) : Free true (rdAV lines s) := .tup (by intro x hx; simp at hx; rcases hx with rfl | rfl; exact lnA_free _; exact .bool)
theorem rd_frz {σ : Heap} {op : List UInt8} {w n : AV} {x : Ln} {ok ok' : Bool} (ho : op = x.op) (hw : Frz true σ w (.sl true false 1 (texts x.ws))) (hn : Frz true σ n (.sl true false 1 (nsA x.ns))) (hok : ok = ok') : Frz true σ (.tup [.agg [.str op, w, n], .bool ok]) (.tup [lnA x, .bool ok']) := by
  subst ho; subst hok
  refine .tup rfl fun i h h' => ?_
  match i, h with
  | 0, _ =>
    refine .agg rfl fun i h h' => ?_
    match i, h with
    | 0, _ => exact .refl .str
    | 1, _ => exact hw
    | 2, _ => exact hn
    | k + 3, h => exact absurd h (by simp)
  | 1, _ => exact .refl .bool
  | k + 2, h => exact absurd h (by simp)
theorem has32 (s : List UInt8) : decide (0 ≤ Lib.indexByte s 32) = s.contains 32 := by
  rcases fst32_ix s with ⟨h1, h2, h3⟩ | ⟨m, h1, h2, h3, h4⟩
  · rw [h1]
    rcases split_two s with ⟨b, t, k1, k2⟩ | ⟨_, k2, _⟩
    · have := split_fst32 s
      rcases fst32_ok s with ⟨k3, _, _⟩ | ⟨k3, k4⟩
      · exact absurd (by simpa using k2) (List.count_eq_zero.1 k3)
      · rw [h2, h3] at k4
        have := congrArg List.length k4
        simp at this
    · rw [k2]; rfl
  · rw [h1, decide_eq_true (by omega)]
    rcases split_two s with ⟨b, t, k1, k2⟩ | ⟨_, k2, k3⟩
    · exact k2.symm
    · rw [h3] at k3
      have := congrArg List.length k3
      rw [List.length_take] at this; omega
theorem u8n {c : UInt8} {k : Nat} (hk : k < 256) (h : c ≠ UInt8.ofNat k) : ((c.toNat : Int) == (k : Int)) = false := by
  have : ¬ c.toNat = k := fun e => h (by rw [← e]; simp)
  simpa using (show ¬ (c.toNat : Int) = (k : Int) by omega)
theorem u8y {c : UInt8} {k : Nat} (hk : k < 256) (h : c = UInt8.ofNat k) : ((c.toNat : Int) == (k : Int)) = true := by
  subst h
  rw [UInt8.toNat_ofNat_of_lt' hk]; simp
theorem nsA_len (l : List Nat) : (nsA l).length = l.length := by simp [nsA]
theorem nsA_one (l : List Nat) : ∀ x ∈ nsA l, AV.cells x = [x] := by
  intro x hx
  obtain ⟨n, _, rfl⟩ := List.mem_map.1 hx
  rfl
theorem flat_one1 {l : List AV} (h : ∀ x ∈ l, AV.cells x = [x]) : l.flatMap AV.cells = l := by
  induction l with
  | nil => rfl
  | cons a r ih => rw [List.flatMap_cons, h a (List.mem_cons_self ..), ih fun x hx => h x (List.mem_cons_of_mem _ hx)]; rfl
theorem ns_frz {σ : Heap} {v : Nat} {ns : List Nat} {g : Tag} (h : boxAt σ 2 = some (v, nsA ns, g)) : Frz true σ (.ms 2 v 0 ns.length 1 false) (.sl true false 1 (nsA ns)) :=
  .ms h (by rw [nsA_len]; omega) (by rw [flat_one1 (nsA_one ns), List.drop_zero]; exact List.take_of_length_le (by rw [nsA_len]; omega)) (fun x hx => by rw [nsA_one ns x hx]; rfl) (by rw [nsA_len]) (nsA_free ns)
theorem word_ok (c : UInt8) (w : List UInt8) (lines : Nat) : (wordT c w lines).isSome = (if c = 114 then regB w else if c = 112 then isPathB w else if c = 100 then (w == [46] || isPathB w) else if c = 110 then (numB w && decide (((numV w : Nat) : Int) ≤ 999999)) else if c = 108 then (numB w && decide (((numV w : Nat) : Int) ≤ (lines : Int))) else if c = 101 then (numB w && decide (((numV w : Nat) : Int) ≤ 99)) else true) := by
  have hn : ∀ most : Nat, (numT w most).isSome = (numB w && decide (((numV w : Nat) : Int) ≤ (most : Int))) := fun most => by
    rw [numT_eq]
    cases numB w with
    | false => rfl
    | true =>
      rw [Bool.true_and]
      by_cases h : numV w ≤ most
      · rw [if_pos ⟨rfl, h⟩, decide_eq_true (by omega)]; rfl
      · rw [if_neg (fun x => h x.2), decide_eq_false (by omega)]; rfl
  unfold wordT
  repeat' split
  all_goals first | rfl | (split <;> simp_all) | exact hn _ | simp_all
theorem rdLn_ok (lines : Nat) (s : List UInt8) (hs : s.length ≤ 1000000) (hl : lines ≤ 1000000) : Calc cx 36 [.str s, .int .i64 (lines : Nat)] (rdAV lines s) :=
  pure_intro (fun a w => Tryz.call36 a w) Tryz.func36 rfl Tryz.ntmps36 rfl (rdAV_free lines s) fun B => by
    have hC := Cut32_ok s (by omega)
    have hF := forms_ok 0 (.cells [.str [], .nils, .nils] ⟨false, some 57⟩)
    have hfl := fst32_len s
    have hrl := rst32_len s
    refine pa [.v (cut32AV s), .f (.map 1 0) (fun _ => [(0, some (.cells [.str [], .nils, .nils] ⟨false, some 57⟩)), (0, some (.map (mapF fmKs fun k => .str (fmV k)) none))]), .v (.tup [.str (fmV (fst32 s)), .bool (formT' (fst32 s)).isSome]), .s] rfl ?_ ?_
    · (repeat' with_reducible apply AllP_cons) <;> try exact aC
      · exact ⟨_, hC, .cons (.refl .str) (.cons (.refl .str) (.nil _))⟩
      · refine OpSpec.mget (kt := 9) (et := 9) (ks := fmKs) (val := fun k => .str (fmV k)) (z := .str []) (s := fst32 s) rfl (Tryz.underlying52) rfl rfl rfl rfl rfl ?_
        rw [fm_mem]
        show AV.tup [if fst32 s ∈ fmKs then .str (fmV (fst32 s)) else .str [], _] = _
        split
        · rfl
        · rename_i h; rw [fm_no h]
    refine S_drop (id := 1) rfl ?_ ⟨.skip, _, .inr ⟨_, _, _, rfl⟩⟩
    unfold rdAV readP
    unfold fmV
    cases hf : formT' (fst32 s) with
    | none =>
      refine pB [.b true] rfl ?_
      exact S_ret ⟨_, _, rfl, ⟨rfl, trivial⟩, _, rfl, rd_frz rfl .nils .nils rfl⟩
    | some f =>
      show S _ _ _ _ (retQ cx _ fun o σ' => ∃ v, o = Out.ret v ∧ Frz true σ' v (.tup [lnA (if f = [114, 116] then _ else _ : Ln × Bool).1, .bool (if f = [114, 116] then _ else _ : Ln × Bool).2])) _ _
      by_cases h1 : f = [114, 116]
      · simp only [if_pos h1]
        subst h1
        have hC2 := Cut32_ok (rst32 s) (by omega)
        unfold cut32AV at hC2
        rw [has32] at hC2
        have hR := isRegister_ok (fst32 (rst32 s)) (by have := fst32_len (rst32 s); omega)
        refine pa [.b false, .b true, .v (.tup [.str (fst32 (rst32 s)), .str (rst32 (rst32 s)), .bool ((rst32 s).contains 32)])] rfl ?_ ?_
        · (repeat' with_reducible apply AllP_cons) <;> try exact aC
          · exact ⟨_, hC2, .cons (.refl .str) (.cons (.refl .str) (.nil _))⟩
        cases hcn : (rst32 s).contains 32 with
        | false =>
          refine pB [.d 6 8 [50] (fun _ => [(0, some (.cells [.str (fst32 s), .sl true true 1 [.str (fst32 (rst32 s)), .str (rst32 (rst32 s))], .nils] ⟨false, some 57⟩)), (1, some (.cells [.str (fst32 s), .sl true true 1 [.str (fst32 (rst32 s)), .str (rst32 (rst32 s))], .nils] ⟨false, some 57⟩))]) [.tup []]] rfl ?_
          exact S_ret ⟨_, _, rfl, ⟨rfl, trivial⟩, _, rfl, rd_frz rfl (.full (fun _ => rfl) (texts_any [_, _])) .nils rfl⟩
        | true =>
          refine pa [.d 6 8 [50] (fun _ => [(0, some (.cells [.str (fst32 s), .sl true true 1 [.str (fst32 (rst32 s)), .str (rst32 (rst32 s))], .nils] ⟨false, some 57⟩)), (1, some (.cells [.str (fst32 s), .sl true true 1 [.str (fst32 (rst32 s)), .str (rst32 (rst32 s))], .nils] ⟨false, some 57⟩))]) [.bool (regB (fst32 (rst32 s))), .tup []]] rfl ?_ ?_
          · (repeat' with_reducible apply AllP_cons) <;> try exact aC
            all_goals first | exact ⟨_, hR, .cons (.refl .str) (.nil _)⟩ | skip
          exact S_ret ⟨_, _, rfl, ⟨rfl, trivial⟩, _, rfl, rd_frz rfl (.full (fun _ => rfl) (texts_any [_, _])) .nils rfl⟩
      · simp only [if_neg h1]
        have h1' : (f == [114, 116]) = false := by simpa using h1
        have hS := Split_ok (rst32 s) 32 (by omega)
        have hws := split_len 32 (rst32 s)
        have hwl : ∀ w ∈ splitB 32 (rst32 s), w.length ≤ 1000000 := fun w hw => by have := split_part w hw; omega
        have hwc := List.count_le_length (a := (32 : UInt8)) (l := rst32 s)
        generalize splitB 32 (rst32 s) = ws at *
        have htl : (texts ws).length = ws.length := by simp [texts]
        by_cases h2 : ws.length ≠ f.length
        · rw [if_pos h2]
          refine pa [.b false, .b false, .v (.sl true false 1 (texts ws)), .b true] rfl ?_ ?_
          · (repeat' with_reducible apply AllP_cons) <;> try exact aC
            all_goals first | exact ⟨_, hS, .cons (.refl .str) (.cons (.refl .str) (.nil _))⟩ | (rw [htl]; simpa using (show ¬ (ws.length : Int) = (f.length : Int) by omega))
          exact S_ret ⟨_, _, rfl, ⟨rfl, trivial⟩, _, rfl, rd_frz rfl (.refl (.sl (fun _ => rfl) (texts_any _))) .nils rfl⟩
        · rw [if_neg h2]
          have h2 : ws.length = f.length := by omega
          refine pa [.b false, .b false, .v (.sl true false 1 (texts ws)), .b false] rfl ?_ ?_
          · (repeat' with_reducible apply AllP_cons) <;> try exact aC
            all_goals first | exact ⟨_, hS, .cons (.refl .str) (.cons (.refl .str) (.nil _))⟩ | (rw [htl]; simpa using (show (ws.length : Int) = (f.length : Int) by omega))
          refine S_ghost (id := 1) (j := 2) (gid := 2) (gver := 0) 1 ⟨false, none⟩ rfl rfl rfl (by decide) ⟨_, _, .inl rfl⟩ ?_
          refine S_while (α := List Nat) (fun ns => [(1, .int .i64 (lines : Nat)), (4, .ptr 0 0 0), (9, .str f), (11, .ptr 1 1 0), (65, .sl true false 1 (texts ws)), (66, .int .i64 (((texts ws).length : Nat) : Int)), (67, .int .i64 (ns.length : Nat))])
            (fun ns => [(0, some (.cells [.str [], .nils, .nils] ⟨false, some 57⟩)), (1, some (.cells [.str (fst32 s), .sl true false 1 (texts ws), .ms 2 ns.length 0 ns.length 1 false] ⟨false, some 57⟩)), (ns.length, some (.cells (nsA ns) ⟨false, none⟩))])
            (fun ns => ns.length ≤ ws.length ∧ wordsP lines f ws = (ns ++ (wordsP lines (f.drop ns.length) (ws.drop ns.length)).1, (wordsP lines (f.drop ns.length) (ws.drop ns.length)).2)) (fun ns => ws.length - ns.length) []
            ⟨Nat.zero_le _, rfl⟩ (.cons rfl (.cons rfl (.cons rfl (.cons rfl (.cons rfl (.cons rfl (.cons rfl (.nil _)))))))) rfl ?_
          rintro ns ⟨hi, hP⟩
          have hi : ns.length ≤ ws.length := hi
          have hP : wordsP lines f ws = (ns ++ (wordsP lines (f.drop ns.length) (ws.drop ns.length)).1, (wordsP lines (f.drop ns.length) (ws.drop ns.length)).2) := hP
          obtain ⟨i, hie⟩ : ∃ i, i = ns.length := ⟨_, rfl⟩
          by_cases hlt : ns.length < ws.length
          · have hltf : ns.length < f.length := by omega
            have e1 : decide ((ns.length : Int) < (((texts ws).length : Nat) : Int)) = true := decide_eq_true (by omega)
            have g1 : (texts ws)[(ns.length : Int).toNat]? = some (.str ws[ns.length]) := by rw [Int.toNat_natCast]; simp [texts, List.getElem?_eq_getElem hlt]
            have hfc : f.getD (ns.length : Int).toNat 0 = f[ns.length] := by rw [Int.toNat_natCast]; simp [List.getD, List.getElem?_eq_getElem hltf]
            have hwl1 := hwl _ (List.getElem_mem hlt)
            rw [List.drop_eq_getElem_cons hlt, List.drop_eq_getElem_cons hltf, wordsP] at hP
            have hW := word_ok f[ns.length] ws[ns.length] lines
            have hN : wordN f[ns.length] ws[ns.length] lines = if f[ns.length] = 110 ∨ f[ns.length] = 108 ∨ f[ns.length] = 101 then numV ws[ns.length] else 0 := rfl
            generalize f[ns.length] = c at *
            generalize ws[ns.length] = w at *
            have hR := isRegister_ok w (by omega)
            have hPa := isPath_ok w (by omega)
            refine pB [.b true, .v (.str w)] rfl ?_
            rw [hfc]
            refine S_join (fun fr σ => Weak fr [(1, .int .i64 (lines : Nat)), (4, .ptr 0 0 0), (9, .str f), (11, .ptr 1 1 0), (65, .sl true false 1 (texts ws)), (66, .int .i64 (((texts ws).length : Nat) : Int)), (67, .int .i64 (ns.length : Nat)), (17, .int .i64 (wordN c w lines : Nat)), (18, .bool (wordT c w lines).isSome)] ∧
              σ = [(0, some (.cells [.str [], .nils, .nils] ⟨false, some 57⟩)), (1, some (.cells [.str (fst32 s), .sl true false 1 (texts ws), .ms 2 ns.length 0 ns.length 1 false] ⟨false, some 57⟩)), (ns.length, some (.cells (nsA ns) ⟨false, none⟩))]) ?_ ?_
            · have hN0 : ¬ (c = 110 ∨ c = 108 ∨ c = 101) → wordN c w lines = 0 := fun h => by rw [hN, if_neg h]
              have hN1 : (c = 110 ∨ c = 108 ∨ c = 101) → wordN c w lines = numV w := fun h => by rw [hN, if_pos h]
              by_cases h114 : c = 114
              · have e114 := u8y (k := 114) (by decide) h114
                have hk : (wordT c w lines).isSome = regB w := by rw [hW]; subst h114; rfl
                have h0 : wordN c w lines = 0 := hN0 (by subst h114; decide)
                rw [hk, h0]
                refine pa [.b true, .v (.bool (regB w))] rfl ?_ ?_
                · (repeat' with_reducible apply AllP_cons) <;> try exact aC
                  all_goals first | exact ⟨_, hR, .cons (.refl .str) (.nil _)⟩ | skip
                exact S_inv ⟨(.cons rfl (.cons rfl (.cons rfl (.cons rfl (.cons rfl (.cons rfl (.cons rfl (.cons rfl (.cons rfl (.nil _)))))))))), rfl⟩
              have e114 := u8n (k := 114) (by decide) h114
              by_cases h112 : c = 112
              · have e112 := u8y (k := 112) (by decide) h112
                have hk : (wordT c w lines).isSome = isPathB w := by rw [hW]; subst h112; rfl
                have h0 : wordN c w lines = 0 := hN0 (by subst h112; decide)
                rw [hk, h0]
                refine pa [.b false, .b true, .v (.bool (isPathB w))] rfl ?_ ?_
                · (repeat' with_reducible apply AllP_cons) <;> try exact aC
                  all_goals first | exact ⟨_, hPa, .cons (.refl .str) (.nil _)⟩ | skip
                exact S_inv ⟨(.cons rfl (.cons rfl (.cons rfl (.cons rfl (.cons rfl (.cons rfl (.cons rfl (.cons rfl (.cons rfl (.nil _)))))))))), rfl⟩
              have e112 := u8n (k := 112) (by decide) h112
              by_cases h100 : c = 100
              · have e100 := u8y (k := 100) (by decide) h100
                have hk : (wordT c w lines).isSome = (w == [46] || isPathB w) := by rw [hW]; subst h100; rfl
                have h0 : wordN c w lines = 0 := hN0 (by subst h100; decide)
                rw [hk, h0]
                cases hd : (w == [46]) with
                | true =>
                  refine pB [.b false, .b false, .b true, .b true] rfl ?_
                  exact S_inv ⟨(.cons rfl (.cons rfl (.cons rfl (.cons rfl (.cons rfl (.cons rfl (.cons rfl (.cons rfl (.cons rfl (.nil _)))))))))), rfl⟩
                | false =>
                  refine pa [.b false, .b false, .b true, .b false, .v (.bool (isPathB w))] rfl ?_ ?_
                  · (repeat' with_reducible apply AllP_cons) <;> try exact aC
                    all_goals first | exact ⟨_, hPa, .cons (.refl .str) (.nil _)⟩ | skip
                  exact S_inv ⟨(.cons rfl (.cons rfl (.cons rfl (.cons rfl (.cons rfl (.cons rfl (.cons rfl (.cons rfl (.cons rfl (.nil _)))))))))), rfl⟩
              have e100 := u8n (k := 100) (by decide) h100
              by_cases h110 : c = 110
              · have e110 := u8y (k := 110) (by decide) h110
                have hk : (wordT c w lines).isSome = (numB w && decide (((numV w : Nat) : Int) ≤ 999999)) := by rw [hW]; subst h110; rfl
                have h0 : wordN c w lines = numV w := hN1 (by subst h110; decide)
                rw [hk, h0]
                have hQ := nmbr_ok w 999999 (by omega)
                refine pa [.b false, .b false, .b false, .b true, .v (nmrAV w 999999)] rfl ?_ ?_
                · (repeat' with_reducible apply AllP_cons) <;> try exact aC
                  all_goals first | exact ⟨_, hQ, .cons (.refl .str) (.cons (.refl .int) (.nil _))⟩ | skip
                exact S_inv ⟨(.cons rfl (.cons rfl (.cons rfl (.cons rfl (.cons rfl (.cons rfl (.cons rfl (.cons rfl (.cons rfl (.nil _)))))))))), rfl⟩
              have e110 := u8n (k := 110) (by decide) h110
              by_cases h108 : c = 108
              · have e108 := u8y (k := 108) (by decide) h108
                have hk : (wordT c w lines).isSome = (numB w && decide (((numV w : Nat) : Int) ≤ (lines : Int))) := by rw [hW]; subst h108; rfl
                have h0 : wordN c w lines = numV w := hN1 (by subst h108; decide)
                rw [hk, h0]
                have hQ := nmbr_ok w (lines : Int) (by omega)
                refine pa [.b false, .b false, .b false, .b false, .b true, .v (nmrAV w (lines : Int))] rfl ?_ ?_
                · (repeat' with_reducible apply AllP_cons) <;> try exact aC
                  all_goals first | exact ⟨_, hQ, .cons (.refl .str) (.cons (.refl .int) (.nil _))⟩ | skip
                exact S_inv ⟨(.cons rfl (.cons rfl (.cons rfl (.cons rfl (.cons rfl (.cons rfl (.cons rfl (.cons rfl (.cons rfl (.nil _)))))))))), rfl⟩
              have e108 := u8n (k := 108) (by decide) h108
              by_cases h101 : c = 101
              · have e101 := u8y (k := 101) (by decide) h101
                have hk : (wordT c w lines).isSome = (numB w && decide (((numV w : Nat) : Int) ≤ 99)) := by rw [hW]; subst h101; rfl
                have h0 : wordN c w lines = numV w := hN1 (by subst h101; decide)
                rw [hk, h0]
                have hQ := nmbr_ok w 99 (by omega)
                refine pa [.b false, .b false, .b false, .b false, .b false, .b true, .v (nmrAV w 99)] rfl ?_ ?_
                · (repeat' with_reducible apply AllP_cons) <;> try exact aC
                  all_goals first | exact ⟨_, hQ, .cons (.refl .str) (.cons (.refl .int) (.nil _))⟩ | skip
                exact S_inv ⟨(.cons rfl (.cons rfl (.cons rfl (.cons rfl (.cons rfl (.cons rfl (.cons rfl (.cons rfl (.cons rfl (.nil _)))))))))), rfl⟩
              have e101 := u8n (k := 101) (by decide) h101
              have hk : (wordT c w lines).isSome = true := by rw [hW]; simp [h114, h112, h100, h110, h108, h101]
              have h0 : wordN c w lines = 0 := hN0 (by rintro (h | h | h); exact h110 h; exact h108 h; exact h101 h)
              rw [hk, h0]
              refine pB [.b false, .b false, .b false, .b false, .b false, .b false] rfl ?_
              exact S_inv ⟨(.cons rfl (.cons rfl (.cons rfl (.cons rfl (.cons rfl (.cons rfl (.cons rfl (.cons rfl (.cons rfl (.nil _)))))))))), rfl⟩
            rintro fr σ ⟨hwk, rfl⟩
            refine S_code_weak hwk ?_
            cases hok : (wordT c w lines).isSome with
            | false =>
              rw [hok] at hP
              have hP : wordsP lines f ws = (ns ++ [], false) := hP
              rw [hP, List.append_nil]
              refine pB [.b true] rfl ?_
              exact S_ret ⟨_, _, rfl, ⟨rfl, trivial⟩, _, rfl, rd_frz rfl (.refl (.sl (fun _ => rfl) (texts_any _))) (ns_frz rfl) rfl⟩
            | true =>
              rw [hok] at hP
              have hP : wordsP lines f ws = (ns ++ wordN c w lines :: (wordsP lines (f.drop (ns.length + 1)) (ws.drop (ns.length + 1))).1, (wordsP lines (f.drop (ns.length + 1)) (ws.drop (ns.length + 1))).2) := hP
              refine pa [.b false] rfl ?_ ?_
              · (repeat' with_reducible apply AllP_cons) <;> try exact aC
                · show 0 + ns.length * 1 = (nsA ns).length; rw [nsA_len]; omega
                · show (ns.length + 1) * 8 ≤ 140737488355328; omega
              have hl2 : (ns ++ [wordN c w lines]).length = ns.length + 1 := by rw [List.length_append]; rfl
              have hap : nsA ns ++ [.int .i64 (wordN c w lines : Nat)] = nsA (ns ++ [wordN c w lines]) := by unfold nsA; rw [List.map_append]; rfl
              refine S_round (ns ++ [wordN c w lines]) (by show ws.length - (ns ++ [wordN c w lines]).length < ws.length - ns.length; omega) ⟨by show (ns ++ [wordN c w lines]).length ≤ ws.length; omega, ?_⟩ (.cons rfl (.cons rfl (.cons rfl (.cons rfl (.cons rfl (.cons rfl (.cons (by show AV.int .i64 (IntKind.i64.wrap ((ns.length : Int) + 1)) = .int .i64 (((ns ++ [wordN c w lines]).length : Nat) : Int); rw [hl2]; exact ai64 rfl (by omega)) (.nil _)))))))) ?_
              · show wordsP lines f ws = (ns ++ [wordN c w lines] ++ (wordsP lines (f.drop (ns ++ [wordN c w lines]).length) (ws.drop (ns ++ [wordN c w lines]).length)).1, (wordsP lines (f.drop (ns ++ [wordN c w lines]).length) (ws.drop (ns ++ [wordN c w lines]).length)).2)
                rw [hl2, List.append_assoc]; exact hP
              · show _ = [(0, some (Box.cells _ _)), (1, some (Box.cells [_, _, .ms 2 (ns ++ [wordN c w lines]).length 0 (ns ++ [wordN c w lines]).length 1 false] _)), ((ns ++ [wordN c w lines]).length, some (Box.cells (nsA (ns ++ [wordN c w lines])) _))]
                rw [hl2, ← hap]; rfl
          · have hil : ns.length = ws.length := by omega
            have e1 : decide ((ns.length : Int) < (((texts ws).length : Nat) : Int)) = false := decide_eq_false (by omega)
            rw [List.drop_of_length_le (show f.length ≤ ns.length by omega), List.drop_of_length_le (show ws.length ≤ ns.length by omega)] at hP
            have hP : wordsP lines f ws = (ns ++ [], true) := hP
            rw [hP, List.append_nil]
            refine pB [.b false] rfl ?_
            exact S_ret ⟨_, _, rfl, ⟨rfl, trivial⟩, _, rfl, rd_frz rfl (.refl (.sl (fun _ => rfl) (texts_any _))) (ns_frz rfl) rfl⟩
end Go.Proofs.YtgmakmfdjhgjlaaGreatDoor
end
section
set_option linter.unusedVariables false
set_option linter.unusedSimpArgs false
set_option maxRecDepth 20000
set_option maxHeartbeats 4000000
namespace Go.Proofs.YtgmakmfdjhgjlaaGreatDoor
open Go Go.Ab
theorem IndexFuncP_ok {st fl : Bool} (g : FuncId) (P : List UInt8 → Bool) (l : List (List UInt8)) (hg : ∀ s ∈ l, Calc cx g ([] ++ [.str s] ++ []) (.bool (P s))) (hl : l.length ≤ 1000000000000) : Calc cx 73 [.sl st fl 1 (texts l), .func (.func g) [] []] (.int .i64 (match l.findIdx? P with | some i => (i : Int) | none => -1)) :=
  pure_intro (fun a w => Tryz.call73 a w) Tryz.func73 rfl Tryz.ntmps73 rfl .int fun B => by
    have htl : (texts l).length = l.length := by simp [texts]
    refine pB [] rfl ?_
    refine S_while (α := Nat) (fun i => [(0, .sl st fl 1 (texts l)), (1, .func (.func g) [] []), (7, .int .i64 (((texts l).length : Nat) : Int)), (8, .int .i64 (i : Nat))]) (fun _ => []) (fun i => i ≤ l.length ∧ ∀ k (hk : k < l.length), k < i → P l[k] = false) (fun i => l.length - i) 0
      ⟨Nat.zero_le _, fun k hk h => absurd h (Nat.not_lt_zero _)⟩ (.cons rfl (.cons rfl (.cons rfl (.cons rfl (.nil _))))) rfl ?_
    rintro i ⟨hi, hN⟩
    have hi : i ≤ l.length := hi
    by_cases hlt : i < l.length
    · have e1 : decide ((i : Int) < (((texts l).length : Nat) : Int)) = true := decide_eq_true (by omega)
      have g1 : (texts l)[(i : Int).toNat]? = some (.str l[i]) := by rw [Int.toNat_natCast]; simp [texts, List.getElem?_eq_getElem hlt]
      have hF := hg l[i] (List.getElem_mem hlt)
      cases hb : P l[i] with
      | true =>
        rw [hb] at hF
        refine pa [.b true, .v (.str l[i]), .v (.bool true), .b true] rfl ?_ ?_
        · (repeat' with_reducible apply AllP_cons) <;> try exact aC
          · exact ⟨_, hF, .cons (.refl .str) (.nil _)⟩
        refine S_retc .int rfl trivial ?_
        have : l.findIdx? P = some i := by
          rw [List.findIdx?_eq_some_iff_getElem]
          exact ⟨hlt, by simpa using hb, fun j hj => by have := hN j (by omega) hj; simpa using this⟩
        rw [this]; rfl
      | false =>
        rw [hb] at hF
        refine pa [.b true, .v (.str l[i]), .v (.bool false), .b false] rfl ?_ ?_
        · (repeat' with_reducible apply AllP_cons) <;> try exact aC
          · exact ⟨_, hF, .cons (.refl .str) (.nil _)⟩
        refine S_round (i + 1) (by show l.length - (i + 1) < l.length - i; omega) ⟨hlt, fun k hk h => ?_⟩ (.cons rfl (.cons rfl (.cons rfl (.cons (nX (by omega)) (.nil _))))) rfl
        have h : k < i + 1 := h
        by_cases hki : k < i
        · exact hN k hk hki
        · have : k = i := by omega
          subst this; exact hb
    · have e1 : decide ((i : Int) < (((texts l).length : Nat) : Int)) = false := decide_eq_false (by omega)
      refine pB [.b false] rfl ?_
      refine S_retc .int rfl trivial ?_
      have : l.findIdx? P = none := by
        rw [List.findIdx?_eq_none_iff]
        intro x hx
        obtain ⟨k, hk, rfl⟩ := List.getElem_of_mem hx
        have := hN k hk (by omega)
        simpa using this
      rw [this]; rfl
theorem ContainsFuncP_ok {st fl : Bool} (g : FuncId) (P : List UInt8 → Bool) (l : List (List UInt8)) (hg : ∀ s ∈ l, Calc cx g ([] ++ [.str s] ++ []) (.bool (P s))) (hl : l.length ≤ 1000000000000) : Calc cx 34 [.sl st fl 1 (texts l), .func (.func g) [] []] (.bool (l.any P)) :=
  pure_intro (fun a w => Tryz.call34 a w) Tryz.func34 rfl Tryz.ntmps34 rfl .bool fun B => by
    have hI := IndexFuncP_ok (st := st) (fl := fl) g P l hg hl
    refine pa [.v (.int .i64 (match l.findIdx? P with | some i => (i : Int) | none => -1))] rfl ?_ ?_
    · (repeat' with_reducible apply AllP_cons) <;> try exact aC
      · exact ⟨_, hI, .cons (.refl (.sl (fun h => by cases h) (texts_any l))) (.cons (.refl (.func (fun x h => by cases h) (fun x h => by cases h))) (.nil _))⟩
    refine S_retc .bool rfl trivial ?_
    show AV.bool (decide ((match l.findIdx? P with | some i => (i : Int) | none => -1) ≥ 0)) = _
    congr 1
    cases h : l.findIdx? P with
    | none =>
      rw [List.findIdx?_eq_none_iff] at h
      rw [List.any_eq_false.2 (fun x hx => by have := h x hx; rw [this]; simp)]; rfl
    | some i =>
      rw [List.findIdx?_eq_some_iff_getElem] at h
      obtain ⟨h1, h2, _⟩ := h
      rw [List.any_eq_true.2 ⟨_, List.getElem_mem h1, h2⟩]
      show decide ((i : Int) ≥ 0) = true
      exact decide_eq_true (by omega)
theorem prog1_ok (s : List UInt8) : Calc cx 35 [.str s] (.bool (decide (100000 < s.length))) :=
  pure_intro (fun a w => Tryz.call35 a w) Tryz.func35 rfl Tryz.ntmps35 rfl .bool fun B => by
    refine pB [] rfl ?_
    refine S_retc .bool rfl trivial ?_
    show AV.bool (decide ((s.length : Int) > 100000)) = _
    congr 1
    rw [decide_eq_decide]; omega
def lns (l : List Ln) : List AV := l.map lnA
def lnCs (l : List Ln) : List AV := l.flatMap lnC
theorem lns_free {st : Bool} (l : List Ln) : ∀ x ∈ lns l, Free st x := by
  intro x hx
  obtain ⟨y, _, rfl⟩ := List.mem_map.1 hx
  exact lnA_free y
theorem lns_flat (l : List Ln) : (lns l).flatMap AV.cells = lnCs l := by
  unfold lns lnCs
  rw [List.flatMap_map]
  rfl
theorem lnCs_len (l : List Ln) : (lnCs l).length = l.length * 3 := by
  induction l with
  | nil => rfl
  | cons x r ih => unfold lnCs at *; rw [List.flatMap_cons, List.length_append, ih, List.length_cons]; show 3 + r.length * 3 = _; omega
theorem lns_size (l : List Ln) : ∀ x ∈ lns l, (AV.cells x).length = 3 := by
  intro x hx
  obtain ⟨y, _, rfl⟩ := List.mem_map.1 hx
  rfl
theorem lns_len (l : List Ln) : (lns l).length = l.length := by simp [lns]
def proAV (com : List (List UInt8)) : AV := .tup [.sl true false 3 (lns (if comE com = 0 then (progT com.length com).getD [] else [])), .int .i64 (comI com : Nat), .int .i64 (comE com : Nat)]
theorem proAV_free (com : List (List UInt8)) : Free true (proAV com) := .tup (by intro x hx; simp at hx; rcases hx with rfl | rfl | rfl; exact .sl (fun _ => rfl) (lns_free _); exact .int; exact .int)
theorem pro_frz {σ : Heap} {a : AV} {l : List Ln} {i e i' e' : Int} (h : Frz true σ a (.sl true false 3 (lns l))) (hi : i = i') (he : e = e') : Frz true σ (.tup [a, .int .i64 i, .int .i64 e]) (.tup [.sl true false 3 (lns l), .int .i64 i', .int .i64 e']) := by
  subst hi; subst he
  refine .tup rfl fun k h1 h2 => ?_
  match k, h1 with
  | 0, _ => exact h
  | 1, _ => exact .refl .int
  | 2, _ => exact .refl .int
  | k + 3, h => exact absurd h (by simp)
theorem progT_bad (L : Nat) : ∀ (com : List (List UInt8)) (i : Nat) (hi : i < com.length), (∀ j (hj : j < com.length), j < i → (lnOf L com[j]).isSome = true) → lnOf L com[i] = none → progT L com = none ∧ badLn L com = i
  | s :: r, 0, _, _, h => by
    have h : lnOf L s = none := h
    rw [progT, badLn, h]; exact ⟨rfl, rfl⟩
  | s :: r, i + 1, hi, ha, h => by
    have h0 := ha 0 (by simp) (by omega)
    obtain ⟨x, hx⟩ := Option.isSome_iff_exists.1 h0
    have hx : lnOf L s = some x := hx
    obtain ⟨k1, k2⟩ := progT_bad L r i (by simpa using hi) (fun j hj hji => ha (j + 1) (by simpa using hj) (by omega)) h
    rw [progT, badLn, hx, k2]
    show (progT L r).map (x :: ·) = none ∧ i + 1 = i + 1
    rw [k1]; exact ⟨rfl, rfl⟩
theorem progT_take (L : Nat) (com : List (List UInt8)) (xs : List Ln) (hl : xs.length = com.length) (h : ∀ j (hj : j < com.length), lnOf L com[j] = some (xs[j]'(by omega))) : progT L com = some xs := by
  induction com generalizing xs with
  | nil => obtain rfl : xs = [] := List.length_eq_zero_iff.1 (by simpa using hl); rfl
  | cons s r ih =>
    match xs, hl with
    | x :: ys, hl =>
      have h0 : lnOf L s = some x := h 0 (by simp)
      rw [progT, h0]
      show (progT L r).map (x :: ·) = _
      rw [ih ys (by simpa using hl) (fun j hj => h (j + 1) (by simpa using hj))]; rfl
theorem program_ok {st fl : Bool} (com : List (List UInt8)) (hl : com.length ≤ 1000000000000) : Calc cx 22 [.sl st fl 1 (texts com)] (proAV com) :=
  pure_intro (fun a w => Tryz.call22 a w) Tryz.func22 rfl Tryz.ntmps22 rfl (proAV_free com) fun B => by
    have htl : (texts com).length = com.length := by simp [texts]
    have hCF := ContainsFuncP_ok (st := st) (fl := fl) 35 (fun s => decide (100000 < s.length)) com (fun s _ => prog1_ok s) hl
    unfold proAV
    by_cases h60 : 60 < com.length
    · have hE : comE com = 2 := by unfold comE checkL; rw [if_pos h60]; rfl
      have hI : comI com = 0 := by unfold comI; rw [hE]; rfl
      rw [hE, hI, if_neg (by decide)]
      refine pB [.b true, .b true] rfl ?_
      exact S_ret ⟨_, _, rfl, trivial, _, rfl, pro_frz .nils rfl rfl⟩
    cases hlg : com.any (fun s => decide (100000 < s.length)) with
    | true =>
      have hE : comE com = 2 := by unfold comE checkL; rw [if_neg h60, hlg]; rfl
      have hI : comI com = 0 := by unfold comI; rw [hE]; rfl
      rw [hE, hI, if_neg (by decide)]
      rw [hlg] at hCF
      refine pa [.b false, .v (.bool true), .b true] rfl ?_ ?_
      · (repeat' with_reducible apply AllP_cons) <;> try exact aC
        · exact ⟨_, hCF, .cons (.refl (.sl (fun h => by cases h) (texts_any _))) (.cons (.refl (.func (fun x h => by cases h) (fun x h => by cases h))) (.nil _))⟩
      exact S_ret ⟨_, _, rfl, trivial, _, rfl, pro_frz .nils rfl rfl⟩
    | false =>
      rw [hlg] at hCF
      have hck : checkL com 60 = 0 := by unfold checkL; rw [if_neg h60, hlg]; rfl
      have hsl : ∀ j (hj : j < com.length), com[j].length ≤ 100000 := fun j hj => by
        have := List.any_eq_false.1 hlg _ (List.getElem_mem hj)
        simpa using this
      refine pa [.b false, .v (.bool false), .b false] rfl ?_ ?_
      · (repeat' with_reducible apply AllP_cons) <;> try exact aC
        · exact ⟨_, hCF, .cons (.refl (.sl (fun h => by cases h) (texts_any _))) (.cons (.refl (.func (fun x h => by cases h) (fun x h => by cases h))) (.nil _))⟩
      refine S_ghostF (t := 5) 3 ⟨false, none⟩ rfl rfl ⟨_, _, .inl rfl⟩ ?_
      refine S_dead ?_ ⟨_, _, .inl rfl⟩
      refine S_while (α := List Ln) (fun xs => [(0, .sl st fl 1 (texts com)), (5, .ms 0 xs.length 0 xs.length 3 false), (17, .sl st fl 1 (texts com)), (18, .int .i64 (((texts com).length : Nat) : Int)), (19, .int .i64 (xs.length : Nat))])
        (fun xs => [(xs.length, some (.cells (lnCs xs) ⟨false, none⟩)), (xs.length, none)])
        (fun xs => xs.length ≤ com.length ∧ ∀ j (hj : j < com.length) (hx : j < xs.length), lnOf com.length com[j] = some xs[j]) (fun xs => com.length - xs.length) []
        ⟨Nat.zero_le _, fun j hj hx => absurd hx (Nat.not_lt_zero _)⟩ (.cons rfl (.cons rfl (.cons rfl (.cons rfl (.cons rfl (.nil _)))))) rfl ?_
      rintro xs ⟨hi, hX⟩
      have hi : xs.length ≤ com.length := hi
      by_cases hlt : xs.length < com.length
      · have e1 : decide ((xs.length : Int) < (((texts com).length : Nat) : Int)) = true := decide_eq_true (by omega)
        have g1 : (texts com)[(xs.length : Int).toNat]? = some (.str com[xs.length]) := by rw [Int.toNat_natCast]; simp [texts, List.getElem?_eq_getElem hlt]
        have hs := hsl _ hlt
        have hR := rdLn_ok com.length com[xs.length] (by omega) (by omega)
        unfold rdAV at hR
        have hP := readP_ln com.length com[xs.length]
        cases hok : (readP com.length com[xs.length]).2 with
        | false =>
          rw [hok] at hP hR
          have hP : lnOf com.length com[xs.length] = none := hP
          obtain ⟨k1, k2⟩ := progT_bad com.length com xs.length hlt (fun j hj hji => by rw [hX j hj hji]; rfl) hP
          have hE : comE com = 1 := by unfold comE; rw [if_pos hck, k1]; rfl
          have hI : comI com = xs.length := by unfold comI; rw [if_pos hE, k2]
          rw [hE, hI, if_neg (by decide)]
          refine pa [.b true, .v (.str com[xs.length]), .v (.tup [lnA (readP com.length com[xs.length]).1, .bool false]), .b true] rfl ?_ ?_
          · (repeat' with_reducible apply AllP_cons) <;> try exact aC
            · rw [htl]; exact ⟨_, hR, .cons (.refl .str) (.cons (.refl .int) (.nil _))⟩
          exact S_ret ⟨_, _, rfl, trivial, _, rfl, pro_frz .nils rfl rfl⟩
        | true =>
          rw [hok] at hP hR
          have hP : lnOf com.length com[xs.length] = some (readP com.length com[xs.length]).1 := hP
          generalize (readP com.length com[xs.length]).1 = x at *
          refine pa [.b true, .v (.str com[xs.length]), .v (.tup [lnA x, .bool true]), .b false, .s] rfl ?_ ?_
          · (repeat' with_reducible apply AllP_cons) <;> try exact aC
            · rw [htl]; exact ⟨_, hR, .cons (.refl .str) (.cons (.refl .int) (.nil _))⟩
          refine pan 4 [] rfl ?_ ?_
          · (repeat' with_reducible apply AllP_cons) <;> try exact aC
            · show 0 + xs.length * 3 = _; rw [lnCs_len]; omega
            · show (xs.length + 1) * 64 ≤ 140737488355328; omega
          refine S_drop (id := 1) rfl ?_ ⟨.skip, _, .inr ⟨_, _, _, rfl⟩⟩
          have hl2 : (xs ++ [x]).length = xs.length + 1 := by rw [List.length_append]; rfl
          have hap : lnCs xs ++ lnC x = lnCs (xs ++ [x]) := by unfold lnCs; rw [List.flatMap_append]; simp
          refine S_heap [((xs ++ [x]).length, some (.cells (lnCs (xs ++ [x])) ⟨false, none⟩)), ((xs ++ [x]).length, none)] ?_ ?_
          · rw [hl2, ← hap]; rfl
          refine pB [] rfl ?_
          refine S_round (xs ++ [x]) (by show com.length - (xs ++ [x]).length < com.length - xs.length; omega) ⟨by show (xs ++ [x]).length ≤ com.length; omega, fun j hj hx => ?_⟩ (.cons rfl (.cons (by show AV.ms 0 (xs.length + 1) 0 (xs.length + 1) 3 false = AV.ms 0 (xs ++ [x]).length 0 (xs ++ [x]).length 3 false; rw [hl2]) (.cons rfl (.cons rfl (.cons (by show AV.int .i64 (IntKind.i64.wrap ((xs.length : Int) + 1)) = .int .i64 (((xs ++ [x]).length : Nat) : Int); rw [hl2]; exact ai64 rfl (by omega)) (.nil _)))))) rfl
          by_cases hjx : j < xs.length
          · rw [List.getElem_append_left hjx]; exact hX j hj hjx
          · obtain rfl : j = xs.length := by omega
            rw [List.getElem_append_right (by omega)]
            simpa using hP
      · have e1 : decide ((xs.length : Int) < (((texts com).length : Nat) : Int)) = false := decide_eq_false (by omega)
        have hPT := progT_take com.length com xs (by omega) (fun j hj => hX j hj (by omega))
        have hE : comE com = 0 := by unfold comE; rw [if_pos hck, hPT]; rfl
        have hI : comI com = 0 := by unfold comI; rw [hE]; rfl
        rw [hE, hI, if_pos rfl, hPT]
        refine pB [.b false] rfl ?_
        exact S_ret ⟨_, _, rfl, trivial, _, rfl, pro_frz (.ms rfl (by rw [lnCs_len]; omega) (by rw [List.drop_zero, lns_flat]; exact List.take_of_length_le (by rw [lnCs_len]; omega)) (lns_size _) (lns_len _) (lns_free _)) rfl rfl⟩
end Go.Proofs.YtgmakmfdjhgjlaaGreatDoor
end
section
set_option linter.unusedVariables false
set_option linter.unusedSimpArgs false
set_option maxRecDepth 20000
set_option maxHeartbeats 4000000
namespace Go.Proofs.YtgmakmfdjhgjlaaGreatDoor
open Go Go.Ab
inductive LnOk (lines : Nat) : Ln → Prop
  | set {c : UInt8} {t : List UInt8} (h1 : 97 ≤ c) (h2 : c ≤ 104) (ht : t.length ≤ 100000) : LnOk lines ⟨kSet, [[c], t], []⟩
  | read {c : UInt8} {p : List UInt8} (h1 : 97 ≤ c) (h2 : c ≤ 104) (hp : isPathB p = true) : LnOk lines ⟨kRead, [[c], p], [0, 0]⟩
  | list {c : UInt8} {p : List UInt8} (h1 : 97 ≤ c) (h2 : c ≤ 104) (hp : p = [46] ∨ isPathB p = true) : LnOk lines ⟨kList, [[c], p], [0, 0]⟩
  | join {c d : UInt8} (h1 : 97 ≤ c) (h2 : c ≤ 104) (h3 : 97 ≤ d) (h4 : d ≤ 104) : LnOk lines ⟨kJoin, [[c], [d]], [0, 0]⟩
  | cut {c : UInt8} {v w : List UInt8} {i j : Nat} (h1 : 97 ≤ c) (h2 : c ≤ 104) (hv : numT v 999999 = some i) (hw : numT w 999999 = some j) : LnOk lines ⟨kCut, [[c], v, w], [0, i, j]⟩
  | size {c d : UInt8} (h1 : 97 ≤ c) (h2 : c ≤ 104) (h3 : 97 ≤ d) (h4 : d ≤ 104) : LnOk lines ⟨kSize, [[c], [d]], [0, 0]⟩
  | sum {c : UInt8} (h1 : 97 ≤ c) (h2 : c ≤ 104) : LnOk lines ⟨kSum, [[c]], [0]⟩
  | make {c : UInt8} {p : List UInt8} (h1 : 97 ≤ c) (h2 : c ≤ 104) (hp : isPathB p = true) : LnOk lines ⟨kMake, [p, [c]], [0, 0]⟩
  | run {c : UInt8} {p : List UInt8} (h1 : 97 ≤ c) (h2 : c ≤ 104) (hp : isPathB p = true) : LnOk lines ⟨kRun, [p, [c]], [0, 0]⟩
  | same {c d : UInt8} {w : List UInt8} {j : Nat} (h1 : 97 ≤ c) (h2 : c ≤ 104) (h3 : 97 ≤ d) (h4 : d ≤ 104) (hw : numT w lines = some j) : LnOk lines ⟨kSame, [[c], [d], w], [0, 0, j]⟩
  | less {c d : UInt8} {w : List UInt8} {j : Nat} (h1 : 97 ≤ c) (h2 : c ≤ 104) (h3 : 97 ≤ d) (h4 : d ≤ 104) (hw : numT w lines = some j) : LnOk lines ⟨kLess, [[c], [d], w], [0, 0, j]⟩
  | goto {w : List UInt8} {j : Nat} (hw : numT w lines = some j) : LnOk lines ⟨kGoto, [w], [j]⟩
  | exit {w : List UInt8} {j : Nat} (hw : numT w 99 = some j) : LnOk lines ⟨kExit, [w], [j]⟩
theorem words_cons {L : Nat} {c : UInt8} {f : List UInt8} {ws : List (List UInt8)} {ns : List Nat} (h : wordsT L (c :: f) ws = some ns) : ∃ w ws' n ns', ws = w :: ws' ∧ ns = n :: ns' ∧ wordT c w L = some n ∧ wordsT L f ws' = some ns' := by
  match ws, h with
  | [], h => cases h
  | w :: ws', h =>
    rw [wordsT] at h
    cases hw : wordT c w L with
    | none => rw [hw] at h; cases h
    | some n =>
      rw [hw] at h
      replace h : (wordsT L f ws').map (n :: ·) = some ns := h
      cases hr : wordsT L f ws' with
      | none => rw [hr] at h; cases h
      | some ns' => rw [hr] at h; cases h; exact ⟨w, ws', n, ns', rfl, rfl, hw, hr⟩
theorem words_nil {L : Nat} {ws : List (List UInt8)} {ns : List Nat} (h : wordsT L [] ws = some ns) : ws = [] ∧ ns = [] := by
  match ws, h with
  | [], h => cases h; exact ⟨rfl, rfl⟩
  | w :: ws', h => cases h
theorem word_r {w : List UInt8} {L n : Nat} (h : wordT 114 w L = some n) : (∃ c : UInt8, w = [c] ∧ 97 ≤ c ∧ c ≤ 104) ∧ n = 0 := by
  unfold wordT at h
  rw [if_pos rfl] at h
  split at h
  · rename_i hr; cases h; exact ⟨regB_one hr, rfl⟩
  · cases h
theorem word_p {w : List UInt8} {L n : Nat} (h : wordT 112 w L = some n) : isPathB w = true ∧ n = 0 := by
  unfold wordT at h
  rw [if_neg (by decide), if_pos rfl] at h
  split at h
  · rename_i hr; cases h; exact ⟨hr, rfl⟩
  · cases h
theorem word_d {w : List UInt8} {L n : Nat} (h : wordT 100 w L = some n) : (w = [46] ∨ isPathB w = true) ∧ n = 0 := by
  unfold wordT at h
  rw [if_neg (by decide), if_neg (by decide), if_pos rfl] at h
  split at h
  · rename_i hr; cases h; exact ⟨by rw [Bool.or_eq_true, beq_iff_eq] at hr; exact hr, rfl⟩
  · cases h
theorem word_n {w : List UInt8} {L n : Nat} (h : wordT 110 w L = some n) : numT w 999999 = some n := by
  unfold wordT at h
  rwa [if_neg (by decide), if_neg (by decide), if_neg (by decide), if_pos rfl] at h
theorem word_l {w : List UInt8} {L n : Nat} (h : wordT 108 w L = some n) : numT w L = some n := by
  unfold wordT at h
  rwa [if_neg (by decide), if_neg (by decide), if_neg (by decide), if_neg (by decide), if_pos rfl] at h
theorem word_e {w : List UInt8} {L n : Nat} (h : wordT 101 w L = some n) : numT w 99 = some n := by
  unfold wordT at h
  rwa [if_neg (by decide), if_neg (by decide), if_neg (by decide), if_neg (by decide), if_neg (by decide), if_pos rfl] at h
theorem lnOk_of {L : Nat} {s : List UInt8} {x : Ln} (h : lnOf L s = some x) (hs : s.length ≤ 100000) : LnOk L x := by
  by_cases h0 : fst32 s = kSet
  · obtain ⟨c, b, t, h1, h2, _, rfl⟩ := ln_set h h0
    exact .set h1 h2 (by rw [List.length_drop]; omega)
  obtain ⟨f, hf, hne, ho, hsp, hw⟩ := ln_other h h0
  obtain ⟨op, ws, ns⟩ := x
  simp only at ho hsp hw
  subst ho
  have hm := formL_mem hf
  generalize fst32 s = w0 at *
  simp only [formL, List.mem_cons, Prod.mk.injEq, List.not_mem_nil, or_false] at hm
  rcases hm with ⟨rfl, rfl⟩ | ⟨rfl, rfl⟩ | ⟨rfl, rfl⟩ | ⟨rfl, rfl⟩ | ⟨rfl, rfl⟩ | ⟨rfl, rfl⟩ | ⟨rfl, rfl⟩ | ⟨rfl, rfl⟩ | ⟨rfl, rfl⟩ | ⟨rfl, rfl⟩ | ⟨rfl, rfl⟩ | ⟨rfl, rfl⟩ | ⟨rfl, rfl⟩
  · exact absurd rfl hne
  · obtain ⟨w1, _, n1, _, rfl, rfl, k1, q1⟩ := words_cons hw
    obtain ⟨w2, _, n2, _, rfl, rfl, k2, q2⟩ := words_cons q1
    obtain ⟨rfl, rfl⟩ := words_nil q2
    obtain ⟨⟨c, rfl, a1, a2⟩, rfl⟩ := word_r k1
    obtain ⟨b1, rfl⟩ := word_p k2
    exact .read a1 a2 b1
  · obtain ⟨w1, _, n1, _, rfl, rfl, k1, q1⟩ := words_cons hw
    obtain ⟨w2, _, n2, _, rfl, rfl, k2, q2⟩ := words_cons q1
    obtain ⟨rfl, rfl⟩ := words_nil q2
    obtain ⟨⟨c, rfl, a1, a2⟩, rfl⟩ := word_r k1
    obtain ⟨b1, rfl⟩ := word_d k2
    exact .list a1 a2 b1
  · obtain ⟨w1, _, n1, _, rfl, rfl, k1, q1⟩ := words_cons hw
    obtain ⟨w2, _, n2, _, rfl, rfl, k2, q2⟩ := words_cons q1
    obtain ⟨rfl, rfl⟩ := words_nil q2
    obtain ⟨⟨c, rfl, a1, a2⟩, rfl⟩ := word_r k1
    obtain ⟨⟨d, rfl, b1, b2⟩, rfl⟩ := word_r k2
    exact .join a1 a2 b1 b2
  · obtain ⟨w1, _, n1, _, rfl, rfl, k1, q1⟩ := words_cons hw
    obtain ⟨w2, _, n2, _, rfl, rfl, k2, q2⟩ := words_cons q1
    obtain ⟨w3, _, n3, _, rfl, rfl, k3, q3⟩ := words_cons q2
    obtain ⟨rfl, rfl⟩ := words_nil q3
    obtain ⟨⟨c, rfl, a1, a2⟩, rfl⟩ := word_r k1
    exact .cut a1 a2 (word_n k2) (word_n k3)
  · obtain ⟨w1, _, n1, _, rfl, rfl, k1, q1⟩ := words_cons hw
    obtain ⟨w2, _, n2, _, rfl, rfl, k2, q2⟩ := words_cons q1
    obtain ⟨rfl, rfl⟩ := words_nil q2
    obtain ⟨⟨c, rfl, a1, a2⟩, rfl⟩ := word_r k1
    obtain ⟨⟨d, rfl, b1, b2⟩, rfl⟩ := word_r k2
    exact .size a1 a2 b1 b2
  · obtain ⟨w1, _, n1, _, rfl, rfl, k1, q1⟩ := words_cons hw
    obtain ⟨rfl, rfl⟩ := words_nil q1
    obtain ⟨⟨c, rfl, a1, a2⟩, rfl⟩ := word_r k1
    exact .sum a1 a2
  · obtain ⟨w1, _, n1, _, rfl, rfl, k1, q1⟩ := words_cons hw
    obtain ⟨w2, _, n2, _, rfl, rfl, k2, q2⟩ := words_cons q1
    obtain ⟨rfl, rfl⟩ := words_nil q2
    obtain ⟨b1, rfl⟩ := word_p k1
    obtain ⟨⟨c, rfl, a1, a2⟩, rfl⟩ := word_r k2
    exact .make a1 a2 b1
  · obtain ⟨w1, _, n1, _, rfl, rfl, k1, q1⟩ := words_cons hw
    obtain ⟨w2, _, n2, _, rfl, rfl, k2, q2⟩ := words_cons q1
    obtain ⟨rfl, rfl⟩ := words_nil q2
    obtain ⟨b1, rfl⟩ := word_p k1
    obtain ⟨⟨c, rfl, a1, a2⟩, rfl⟩ := word_r k2
    exact .run a1 a2 b1
  · obtain ⟨w1, _, n1, _, rfl, rfl, k1, q1⟩ := words_cons hw
    obtain ⟨w2, _, n2, _, rfl, rfl, k2, q2⟩ := words_cons q1
    obtain ⟨w3, _, n3, _, rfl, rfl, k3, q3⟩ := words_cons q2
    obtain ⟨rfl, rfl⟩ := words_nil q3
    obtain ⟨⟨c, rfl, a1, a2⟩, rfl⟩ := word_r k1
    obtain ⟨⟨d, rfl, b1, b2⟩, rfl⟩ := word_r k2
    exact .same a1 a2 b1 b2 (word_l k3)
  · obtain ⟨w1, _, n1, _, rfl, rfl, k1, q1⟩ := words_cons hw
    obtain ⟨w2, _, n2, _, rfl, rfl, k2, q2⟩ := words_cons q1
    obtain ⟨w3, _, n3, _, rfl, rfl, k3, q3⟩ := words_cons q2
    obtain ⟨rfl, rfl⟩ := words_nil q3
    obtain ⟨⟨c, rfl, a1, a2⟩, rfl⟩ := word_r k1
    obtain ⟨⟨d, rfl, b1, b2⟩, rfl⟩ := word_r k2
    exact .less a1 a2 b1 b2 (word_l k3)
  · obtain ⟨w1, _, n1, _, rfl, rfl, k1, q1⟩ := words_cons hw
    obtain ⟨rfl, rfl⟩ := words_nil q1
    exact .goto (word_l k1)
  · obtain ⟨w1, _, n1, _, rfl, rfl, k1, q1⟩ := words_cons hw
    obtain ⟨rfl, rfl⟩ := words_nil q1
    exact .exit (word_e k1)
theorem numT_le {w : List UInt8} {most n : Nat} (h : numT w most = some n) : n ≤ most ∧ n < 1000000 := by
  unfold numT at h
  split at h
  · rename_i hc; cases h; exact ⟨hc.2.2.2.2, valN_len hc.1 hc.2.2.1⟩
  · cases h
structure McI (m : Mc) : Prop where
  ok : McOk m
  pth : ∀ f ∈ m.made, isPathB f.path = true ∧ f.text.length ≤ 100000
  many : (ksP m.made).length ≤ 60
  pc : m.pc ≤ 1000000
  code : m.code ≤ 104
  meet : ∀ p ∈ ksP m.made, ∀ q ∈ ksP m.made, insT p q = false
theorem McI.end_ {m : Mc} (h : McI m) {l k : Nat} (hl : l ≤ 100000) (hk : k ≤ 104) : McI (endM k { m with left := l }) :=
  ⟨⟨⟨h.ok.reg.nd, h.ok.reg.no⟩, h.ok.len, hl⟩, h.pth, h.many, h.pc, hk, h.meet⟩
theorem McI.trip {m : Mc} (h : McI m) {k : Nat} (hk : k ≤ 104) : McI (tripM k m) := by
  unfold tripM
  have := h.ok.left
  split
  · exact h.end_ (by omega) (by omega)
  · exact h.end_ (by omega) hk
theorem McI.set {m : Mc} (h : McI m) (r t : List UInt8) : McI (setM r t m) := by
  unfold setM keepM
  have := h.ok.left
  split
  · exact h.trip (by omega)
  split
  · exact h.end_ (by omega) (by omega)
  · rename_i h1 h2
    refine ⟨⟨⟨?_, fun k hk => ?_⟩, fun k => ?_, by show m.left - _ ≤ 100000; omega⟩, h.pth, h.many, h.pc, h.code, h.meet⟩
    · show (addK m.ks r).Nodup
      exact addU_nodup h.ok.reg.nd
    · have hk : k ∉ addK m.ks r := hk
      have hm : ∀ z, z ∈ addK m.ks r ↔ z ∈ m.ks ∨ z = r := fun z => addU_mem (l := m.ks) (s := r) (x := z)
      show updT m.regs r t k = []
      unfold updT
      rw [if_neg (fun e => hk ((hm k).2 (.inr e)))]
      exact h.ok.reg.no k (fun e => hk ((hm k).2 (.inl e)))
    · show (updT m.regs r t k).length ≤ 100000
      unfold updT
      split
      · omega
      · exact h.ok.len k
theorem McI.jump {m : Mc} (h : McI m) (b : Bool) {to : Nat} (ht : to ≤ 1000000) : McI (jumpM b to m) := by
  unfold jumpM
  have := h.ok.left
  split
  · exact h.end_ (by omega) (by omega)
  split
  · exact ⟨⟨⟨h.ok.reg.nd, h.ok.reg.no⟩, h.ok.len, by show m.left - 1 ≤ 100000; omega⟩, h.pth, h.many, ht, h.code, h.meet⟩
  · exact ⟨⟨⟨h.ok.reg.nd, h.ok.reg.no⟩, h.ok.len, by show m.left - 1 ≤ 100000; omega⟩, h.pth, h.many, h.pc, h.code, h.meet⟩
theorem McI.exit {m : Mc} (h : McI m) {k : Nat} (hk : k ≤ 104) : McI (exitM k m) := by
  unfold exitM
  have := h.ok.left
  split
  · exact h.end_ (by omega) (by omega)
  · exact h.end_ (by omega) hk
theorem badM_no {p : List UInt8} {c : List Fil} (h : badM p c = false) : ∀ q ∈ ksP c, insT p q = false ∧ insT q p = false := by
  intro q hq
  have h1 := List.any_eq_false.1 h q hq
  by_cases he : q = p
  · subst he; exact ⟨ins_self q, ins_self q⟩
  · have h2 : (q != p) = true := by simpa using he
    rw [h2] at h1
    unfold meetT at h1
    simp only [Bool.true_and, Bool.or_eq_true, not_or, Bool.not_eq_true] at h1
    exact ⟨h1.2, h1.1.2⟩
theorem McI.make {m : Mc} (h : McI m) {p t : List UInt8} (run : Bool) (hp : isPathB p = true) : McI (makeM p t run m) := by
  unfold makeM
  split
  · exact h.trip (by omega)
  · rename_i hb
    have hb1 : badM p m.made = false := by
      cases hq : badM p m.made with
      | false => rfl
      | true => exact absurd (.inl hq) hb
    have hno := badM_no hb1
    unfold keepM
    have := h.ok.left
    split
    · exact h.trip (by omega)
    split
    · exact h.end_ (by omega) (by omega)
    · rename_i h1 h2
      have hks : ksP (m.made ++ [⟨p, t, run⟩]) = addU (ksP m.made) p := ksP_add _ _
      refine ⟨⟨⟨h.ok.reg.nd, h.ok.reg.no⟩, h.ok.len, by show m.left - _ ≤ 100000; omega⟩, fun f hf => ?_, ?_, h.pc, h.code, ?_⟩
      · rcases List.mem_append.1 hf with hf | hf
        · exact h.pth f hf
        · obtain rfl := List.mem_singleton.1 hf
          exact ⟨hp, by show t.length ≤ 100000; omega⟩
      · show (ksP (m.made ++ [⟨p, t, run⟩])).length ≤ 60
        rw [hks, addU]
        have hm := h.many
        split
        · exact hm
        · rename_i hin
          have : (ksP m.made).length ≠ 60 := fun e => hb (.inr ⟨hin, e⟩)
          rw [List.length_append]
          show (ksP m.made).length + 1 ≤ 60
          omega
      · intro x hx y hy
        have hx : x ∈ ksP (m.made ++ [⟨p, t, run⟩]) := hx
        have hy : y ∈ ksP (m.made ++ [⟨p, t, run⟩]) := hy
        rw [hks, addU_mem] at hx hy
        rcases hx with hx | hx <;> rcases hy with hy | hy
        · exact h.meet x hx y hy
        · rw [hy]; exact (hno x hx).2
        · rw [hx]; exact (hno y hy).1
        · rw [hx, hy]; exact ins_self _
theorem McI.next {m : Mc} (h : McI m) (hp : m.pc + 1 ≤ 1000000) : McI { m with pc := m.pc + 1 } := ⟨⟨⟨h.ok.reg.nd, h.ok.reg.no⟩, h.ok.len, h.ok.left⟩, h.pth, h.many, hp, h.code, h.meet⟩
theorem McI.step {L : Nat} {fs : List Fil} {x : Ln} {m : Mc} (h : McI m) (hx : LnOk L x) (hL : L ≤ 1000) : McI (stepM fs x m) := by
  cases hx with
  | set => exact h.set _ _
  | @read c p =>
    show McI (match fs.find? (fun f => f.path == p) with | none => tripM 101 m | some f => setM [c] f.text m)
    split
    · exact h.trip (by omega)
    · exact h.set _ _
  | list => exact h.set _ _
  | join => exact h.set _ _
  | cut => exact h.set _ _
  | size => exact h.set _ _
  | sum => exact h.set _ _
  | make _ _ hp => exact h.make _ hp
  | run _ _ hp => exact h.make _ hp
  | same _ _ _ _ hw => exact h.jump _ (Nat.le_trans (numT_le hw).1 (by omega))
  | less _ _ _ _ hw => exact h.jump _ (Nat.le_trans (numT_le hw).1 (by omega))
  | goto hw => exact h.jump _ (Nat.le_trans (numT_le hw).1 (by omega))
  | exit hw => exact h.exit (Nat.le_trans (numT_le hw).1 (by decide))
end Go.Proofs.YtgmakmfdjhgjlaaGreatDoor
end
section
set_option linter.unusedVariables false
set_option linter.unusedSimpArgs false
set_option maxRecDepth 20000
set_option maxHeartbeats 4000000
namespace Go.Proofs.YtgmakmfdjhgjlaaGreatDoor
open Go Go.Ab
def LessM (m m' : Mc) : Prop := m'.done = true ∧ m'.left ≤ m.left ∨ m'.left < m.left
theorem LessM.le {m m' : Mc} (h : LessM m m') : m'.left ≤ m.left := by
  rcases h with ⟨_, h⟩ | h <;> omega
theorem trip_less (k : Nat) (m : Mc) : LessM m (tripM k m) := by
  unfold tripM
  split
  · exact .inl ⟨rfl, Nat.zero_le _⟩
  · exact .inl ⟨rfl, Nat.sub_le _ _⟩
theorem keep_less {t : List UInt8} {k : Mc → Mc} {m : Mc} (hk : ∀ m, (k m).left = m.left) : LessM m (keepM t k m) := by
  unfold keepM
  split
  · exact trip_less _ _
  split
  · exact .inl ⟨rfl, Nat.zero_le _⟩
  · rename_i h; right; rw [hk]; show m.left - _ < m.left; omega
theorem set_less (r t : List UInt8) (m : Mc) : LessM m (setM r t m) := keep_less fun _ => rfl
theorem make_less (p t : List UInt8) (run : Bool) (m : Mc) : LessM m (makeM p t run m) := by
  unfold makeM
  split
  · exact trip_less _ _
  · exact keep_less fun _ => rfl
theorem jump_less (b : Bool) (to : Nat) (m : Mc) : LessM m (jumpM b to m) := by
  unfold jumpM
  split
  · exact .inl ⟨rfl, Nat.zero_le _⟩
  split
  · right; show m.left - 1 < m.left; omega
  · right; show m.left - 1 < m.left; omega
theorem exit_less (k : Nat) (m : Mc) : LessM m (exitM k m) := by
  unfold exitM
  split
  · exact .inl ⟨rfl, Nat.zero_le _⟩
  · exact .inl ⟨rfl, Nat.sub_le _ _⟩
theorem step_less {L : Nat} {fs : List Fil} {x : Ln} {m : Mc} (hx : LnOk L x) : LessM m (stepM fs x m) := by
  cases hx with
  | set => exact set_less _ _ _
  | @read c p =>
    show LessM m (match fs.find? (fun f => f.path == p) with | none => tripM 101 m | some f => setM [c] f.text m)
    split
    · exact trip_less _ _
    · exact set_less _ _ _
  | list => exact set_less _ _ _
  | join => exact set_less _ _ _
  | cut => exact set_less _ _ _
  | size => exact set_less _ _ _
  | sum => exact set_less _ _ _
  | make => exact make_less _ _ _ _
  | run => exact make_less _ _ _ _
  | same => exact jump_less _ _ _
  | less => exact jump_less _ _ _
  | goto => exact jump_less _ _ _
  | exit => exact exit_less _ _
theorem runM_done {fs : List Fil} {prog : List Ln} {m : Mc} (h : m.done = true) : ∀ n, runM fs prog n m = m
  | 0 => rfl
  | n + 1 => by rw [runM, if_pos h]
theorem runM_fuel {L : Nat} {fs : List Fil} {prog : List Ln} (hp : ∀ x ∈ prog, LnOk L x) : ∀ (n : Nat) (m : Mc), m.left < n → runM fs prog n m = runM fs prog (m.left + 1) m := by
  intro n
  induction n using Nat.strongRecOn with
  | _ n ih =>
    intro m hn
    obtain ⟨k, rfl⟩ : ∃ k, n = k + 1 := ⟨n - 1, by omega⟩
    rw [runM, runM]
    split
    · rfl
    split
    · rfl
    · rename_i x hx
      have hless := step_less (fs := fs) (m := { m with pc := m.pc + 1 }) (hp x (List.mem_of_getElem? hx))
      rcases hless with ⟨hd, _⟩ | hl
      · rw [runM_done hd, runM_done hd]
      · have hl : (stepM fs x { m with pc := m.pc + 1 }).left < m.left := hl
        rw [ih k (by omega) _ (by omega)]
        by_cases he : m.left = k
        · subst he
          exact (ih m.left (by omega) _ hl).symm
        · exact (ih m.left (by omega) _ hl).symm
theorem progT_ok {com : List (List UInt8)} {L : Nat} (hs : ∀ s ∈ com, s.length ≤ 100000) {xs : List Ln} (h : progT L com = some xs) : xs.length = com.length ∧ ∀ x ∈ xs, LnOk L x := by
  induction com generalizing xs with
  | nil => cases h; exact ⟨rfl, fun x hx => by cases hx⟩
  | cons s r ih =>
    rw [progT] at h
    cases hq : lnOf L s with
    | none => rw [hq] at h; cases h
    | some x =>
      rw [hq] at h
      replace h : (progT L r).map (x :: ·) = some xs := h
      cases hr : progT L r with
      | none => rw [hr] at h; cases h
      | some ys =>
        rw [hr] at h
        cases h
        obtain ⟨k1, k2⟩ := ih (fun s hs' => hs s (List.mem_cons_of_mem _ hs')) hr
        refine ⟨by simp [k1], fun y hy => ?_⟩
        rcases List.mem_cons.1 hy with rfl | hy
        · exact lnOk_of hq (hs _ (List.mem_cons_self ..))
        · exact k2 y hy
theorem comE_long {com : List (List UInt8)} (h : comE com = 0) : com.length ≤ 60 ∧ (∀ s ∈ com, s.length ≤ 100000) ∧ ∃ xs, progT com.length com = some xs := by
  unfold comE checkL at h
  by_cases h1 : 60 < com.length
  · rw [if_pos h1] at h; simp at h
  · rw [if_neg h1] at h
    cases hq : com.any (fun s => decide (100000 < s.length)) with
    | true => rw [hq] at h; simp at h
    | false =>
      rw [hq] at h
      refine ⟨by omega, fun s hs => by have := List.any_eq_false.1 hq s hs; simpa using this, ?_⟩
      cases hp : progT com.length com with
      | none => rw [hp] at h; simp at h
      | some xs => exact ⟨xs, rfl⟩
theorem mc0_ok {fuel : Nat} (h : fuel ≤ 100000) : McI (mc0 fuel) :=
  ⟨⟨⟨.nil, fun _ _ => rfl⟩, fun r => by show ([] : List UInt8).length ≤ 100000; simp, h⟩, (fun f hf => by cases hf), by show (ksP []).length ≤ 60; simp [ksP], by show 0 ≤ 1000000; omega, by show 0 ≤ 104; omega, (fun p hp => by cases hp)⟩
theorem Values_ok (a b c d e : Nat) (fs : List Fil) (m : Mc) (x y : Nat) : CallOk cx 27 [.map 1 b] (mcH a b c d e fs m [(x, none), (y, none)])
    (fun o s => o = .ret (.func (.func 65) [] [.ptr 5 (x + 1) 0]) ∧ s = mcH a b c d e fs m [(x + 1, some (.cells [.map 1 b] ⟨false, none⟩)), (y, none)]) :=
  callOk_intro (fun a w => Tryz.call27 a w) Tryz.func27 rfl Tryz.ntmps27 rfl fun B => by
    refine pB [] rfl ?_
    exact S_ret ⟨_, _, rfl, trivial, rfl, rfl⟩
end Go.Proofs.YtgmakmfdjhgjlaaGreatDoor
end
