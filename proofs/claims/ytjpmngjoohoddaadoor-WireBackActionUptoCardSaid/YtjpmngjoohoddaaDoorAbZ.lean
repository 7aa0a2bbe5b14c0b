/-
  Arguments of plain types: bools, whole numbers, texts, slices and structs of such, whatever their shape.
-/
import Derived.Test.YtjpmngjoohoddaaDoorAbX
import Derived.WideShapes
set_option linter.unusedVariables false
set_option linter.unusedSimpArgs false
namespace Go.Ab
open Go Go.WideShapes

/-- The fields lie one behind the other. -/
def laidB (P : Program) : List Field → Nat → Option Nat
  | [], o => some o
  | f :: r, o => match Nat.beq f.offset o with
    | true => laidB P r (o + P.cellsOf f.type)
    | false => none

mutual
def plainB (P : Program) : Nat → TypeId → Bool
  | 0, _ => false
  | n + 1, t => match P.underlying t with
    | some .bool => Nat.beq (P.cellsOf t) 1
    | some (.int _) => Nat.beq (P.cellsOf t) 1
    | some .string => Nat.beq (P.cellsOf t) 1
    | some (.slice e) => match Nat.beq (P.cellsOf t) 1, Nat.beq (P.cellsOf e) 0 with
      | true, false => plainB P n e
      | _, _ => false
    | some (.struct fs) => match laidB P fs.toList 0 with
      | some m => match Nat.beq (P.cellsOf t) m with
        | true => plainAll P n fs.toList
        | false => false
      | none => false
    | _ => false
def plainAll (P : Program) : Nat → List Field → Bool
  | 0, _ => false
  | n + 1, fs => match fs with
    | [] => true
    | f :: r => match plainB P n f.type with
      | true => plainAll P n r
      | false => false
end

/-- Data, and the value that it stands for. -/
inductive RdD (P : Program) {H : Type} : TypeId → DataW H → AV → Prop
  | bool {t b} (ht : P.underlying t = some .bool) : RdD P t (.lit (.bool b)) (.bool b)
  | int {t k n} (ht : P.underlying t = some (.int k)) (hw : (Lit.int k n).wf = true) : RdD P t (.lit (.int k n)) (.int k n)
  | str {t s} (ht : P.underlying t = some .string) (hs : s.length ≤ maxLen) : RdD P t (.lit (.string s)) (.str s)
  | nils {t e} (ht : P.underlying t = some (.slice e)) : RdD P t .nil (.sl true false (P.cellsOf e) [])
  | sl {t e} {ds rest : List (DataW H)} {xs : List AV} (ht : P.underlying t = some (.slice e)) (hl : xs.length = ds.length) (hm : xs.length ≤ maxLen) (h : ∀ i (h1 : i < ds.length) (h2 : i < xs.length), RdD P e ds[i] xs[i]) : RdD P t (.slice ds rest) (.sl true false (P.cellsOf e) xs)
  | st {t} {fs : Array Field} {ds : List (DataW H)} {xs : List AV} (ht : P.underlying t = some (.struct fs)) (hd : ds.length = fs.size) (hx : xs.length = fs.size) (h : ∀ i (h1 : i < ds.length) (h2 : i < xs.length) (h3 : i < fs.size), RdD P fs[i].type ds[i] xs[i]) : RdD P t (.agg ds) (.agg (xs.flatMap AV.cells))

/-- Cells that stand for a value. -/
def CellsV (w : World) (cs : List Value) (as : List AV) : Prop := cs.length = as.length ∧ ∀ i (h1 : i < cs.length) (h2 : i < as.length), VRel (Rl.old w) w cs[i] as[i]

theorem CellsV.one {w : World} {v : Value} {a : AV} (h : VRel (Rl.old w) w v a) : CellsV w [v] [a] := by
  refine ⟨rfl, fun i h1 h2 => ?_⟩
  obtain rfl : i = 0 := by simpa using h1
  exact h

theorem laidB_flat {P : Program} : ∀ (fs : List Field) (o m : Nat) (w : World) (cs : List Value) (xs : List AV), laidB P fs o = some m → xs.length = fs.length → (∀ i (h1 : i < fs.length) (h2 : i < xs.length), CellsV w ((cs.drop fs[i].offset).take (P.cellsOf fs[i].type)) xs[i].cells ∧ xs[i].cells.length = P.cellsOf fs[i].type) →
    cs.length = m → o ≤ m ∧ CellsV w (cs.drop o) (xs.flatMap AV.cells)
  | [], o, m, w, cs, xs, h, hl, hc, hm => by
    simp only [laidB, Option.some.injEq] at h
    obtain rfl : xs = [] := List.eq_nil_of_length_eq_zero hl
    subst h
    refine ⟨Nat.le_refl _, ?_⟩
    rw [List.drop_of_length_le (by omega)]
    exact ⟨rfl, fun i h => absurd h (by simp)⟩
  | f :: r, o, m, w, cs, xs, h, hl, hc, hm => by
    rw [laidB] at h
    split at h
    case h_2 => cases h
    rename_i hb
    have ho := Nat.eq_of_beq_eq_true hb
    obtain ⟨x, xs, rfl⟩ : ∃ x xs', xs = x :: xs' := by
      cases xs with
      | nil => simp at hl
      | cons x xs => exact ⟨x, xs, rfl⟩
    have h0 := hc 0 (by simp) (by simp)
    simp only [List.getElem_cons_zero] at h0
    obtain ⟨h1, h2⟩ := laidB_flat r (o + P.cellsOf f.type) m w cs xs h (by simpa using hl) (fun i k1 k2 => hc (i + 1) (Nat.succ_lt_succ k1) (Nat.succ_lt_succ k2)) hm
    refine ⟨by omega, ?_⟩
    obtain ⟨⟨e1, e2⟩, e3⟩ := h0
    rw [ho] at e1 e2
    rw [List.flatMap_cons]
    have hsplit : cs.drop o = (cs.drop o).take (P.cellsOf f.type) ++ cs.drop (o + P.cellsOf f.type) := by
      rw [← List.drop_drop, List.take_append_drop]
    rw [hsplit]
    refine ⟨by rw [List.length_append, List.length_append, e1, h2.1], fun i k1 k2 => ?_⟩
    by_cases hi : i < x.cells.length
    · rw [List.getElem_append_left (by omega), List.getElem_append_left hi]
      exact e2 i (by omega) hi
    · rw [List.getElem_append_right (by omega), List.getElem_append_right (by omega)]
      have : i - ((cs.drop o).take (P.cellsOf f.type)).length = i - x.cells.length := by omega
      simp only [this]
      exact h2.2 _ _ _

theorem read_cells {H : Type} {enc : TypeId × Value → H} {P : Program} {W : World} : ∀ (fuel n : Nat) (t : TypeId) (cs : List Value) (d : DataW H) (ps : List MemPlace), DataW.trod enc P W 0 (fun _ => true) true fuel t cs = some (d, ps) → plainB P n t = true →
    ∃ a, RdD P t d a ∧ a.cells.length = P.cellsOf t ∧ CellsV W cs a.cells ∧ (∀ v, (∃ xs, v = .agg xs ∧ xs.toList = cs ∧ aggT P t = some true) ∨ ([v] = cs ∧ aggT P t = some false) → VRel (Rl.old W) W v a) := by
  intro fuel
  induction fuel with
  | zero => intro n t cs d ps h _; simp [DataW.trod] at h
  | succ fuel ih =>
    intro n t cs d ps h hp
    have hall : ∀ (n : Nat) (fs : List Field), plainAll P n fs = true → ∀ i (hi : i < fs.length), ∃ m, plainB P m fs[i].type = true := by
      intro n
      induction n with
      | zero => intro fs h; simp [plainAll] at h
      | succ n ihn =>
        intro fs h i hi
        cases fs with
        | nil => simp at hi
        | cons f r =>
          rw [plainAll] at h
          split at h
          · rename_i hb
            cases i with
            | zero => exact ⟨n, hb⟩
            | succ i => exact ihn r h i (by simpa using hi)
          · cases h
    cases n with
    | zero => simp [plainB] at hp
    | succ n =>
      rw [plainB] at hp
      split at hp
      · -- bool
        rename_i ht
        obtain ⟨b, rfl, hx⟩ := DataW.trod_bool ht h
        cases hx
        refine ⟨.bool b, .bool ht, (Nat.eq_of_beq_eq_true hp).symm, .one .bool, ?_⟩
        rintro v (⟨xs, rfl, h1, h2⟩ | ⟨h1, h2⟩)
        · simp [aggT, ht] at h2
        · cases h1; exact .bool
      · rename_i k ht
        obtain ⟨m, rfl, hx, hw⟩ := DataW.trod_int ht h
        cases hx
        refine ⟨.int _ m, .int ht hw, (Nat.eq_of_beq_eq_true hp).symm, .one .int, ?_⟩
        rintro v (⟨xs, rfl, h1, h2⟩ | ⟨h1, h2⟩)
        · simp [aggT, ht] at h2
        · cases h1; exact .int
      · rename_i ht
        obtain ⟨s, rfl, hx, hw⟩ := DataW.trod_string ht h
        cases hx
        refine ⟨.str s.data.toList, .str ht (by rw [Array.length_toList]; exact hw), (Nat.eq_of_beq_eq_true hp).symm, .one (.str rfl), ?_⟩
        rintro v (⟨xs, rfl, h1, h2⟩ | ⟨h1, h2⟩)
        · simp [aggT, ht] at h2
        · cases h1; exact .str rfl
      · -- slice
        rename_i e ht
        split at hp
        case h_2 => cases hp
        rename_i hc1 hc0
        have hc1 := Nat.eq_of_beq_eq_true hc1
        have hpos : 0 < P.cellsOf e := by
          rcases Nat.eq_zero_or_pos (P.cellsOf e) with h0 | h0
          · rw [h0] at hc0; cases hc0
          · exact h0
        rcases DataW.trod_slice ht h with ⟨rfl, hx⟩ | ⟨a, len, cap, elems, rest, fu, hfu, rfl, hx, _, hl, hm, hlen, hel, hsp, hns⟩
        · cases hx
          refine ⟨_, .nils ht, hc1.symm, .one (.sl0 (fun h => by cases h)), ?_⟩
          rintro v (⟨xs, rfl, h1, h2⟩ | ⟨h1, h2⟩)
          · simp [aggT, ht] at h2
          · cases h1; exact .sl0 (fun h => by cases h)
        · cases hx
          obtain rfl : fuel = fu := by omega
          have each : ∀ i (hi : i < elems.length), ∃ x, RdD P e (elems[i]).1 x ∧ x.cells.length = P.cellsOf e ∧ ∃ ecs : List Value, W.cells? 0 (a.add (i * P.cellsOf e)) (P.cellsOf e) = some ecs ∧ CellsV W ecs x.cells := by
            intro i hi
            have h1 := hel i (by omega)
            rw [List.getElem?_eq_getElem hi, Option.bind_eq_some_iff] at h1
            obtain ⟨ecs, h2, h3⟩ := h1
            obtain ⟨x, k1, k2, k3, _⟩ := ih n e ecs (elems[i]).1 (elems[i]).2 h3 hp
            exact ⟨x, k1, k2, ecs, h2, k3⟩
          have : ∃ xs : List AV, xs.length = elems.length ∧ ∀ i (hi : i < elems.length) (hx : i < xs.length), RdD P e (elems[i]).1 xs[i] ∧ xs[i].cells.length = P.cellsOf e ∧ ∃ ecs : List Value, W.cells? 0 (a.add (i * P.cellsOf e)) (P.cellsOf e) = some ecs ∧ CellsV W ecs xs[i].cells := by
            refine ⟨(List.finRange elems.length).map fun i => Classical.choose (each i.1 i.2), by simp, fun i hi hx => ?_⟩
            simp only [List.getElem_map, List.getElem_finRange]
            exact Classical.choose_spec (each i hi)
          obtain ⟨xs, hxl, hxs⟩ := this
          have hv : VRel (Rl.old W) W (.slice (some a) len cap) (.sl true false (P.cellsOf e) xs) := by
            rcases Nat.eq_zero_or_pos len with h0 | h0
            · subst h0
              obtain rfl : xs = [] := List.eq_nil_of_length_eq_zero (by omega)
              exact .sl0 (fun h => by cases h)
            · obtain ⟨b, o, sp⟩ := a
              obtain ⟨_, _, ecs0, hc, _⟩ := hxs 0 (by omega) (by omega)
              obtain ⟨_, hcl, hcc⟩ := World.cells?_some hc
              have hcell0 := hcc 0 hpos
              rw [List.getElem?_eq_getElem (by omega)] at hcell0
              have hsp : sp = none := by
                cases sp with
                | none => rfl
                | some s =>
                  simp [Addr.add, World.cell?] at hcell0
                  split at hcell0 <;> cases hcell0
              subst hsp
              have hb : b < W.heap.size := by
                rw [Addr.add_lit] at hcell0
                rcases Nat.lt_or_ge b W.heap.size with h | h
                · exact h
                · simp [World.cell?, Addr.add, Array.getElem?_eq_none h] at hcell0
              have hcel : ∀ i, i < xs.length → ∀ j, j < P.cellsOf e → ∃ v, W.cell? ⟨b, o + i * P.cellsOf e + j, none⟩ = some v ∧ ∀ (hi : i < xs.length) (hj : j < (AV.cells xs[i]).length), VRel (Rl.old W) W v (AV.cells xs[i])[j] := by
                intro i hi j hj
                obtain ⟨_, hxc, ecs, hc, hcv⟩ := hxs i (by omega) hi
                obtain ⟨_, hcl, hcc⟩ := World.cells?_some hc
                have h1 := hcc j hj
                rw [List.getElem?_eq_getElem (by omega)] at h1
                rw [Addr.add_lit, Addr.add_lit] at h1
                refine ⟨ecs[j], h1, fun _ hj' => hcv.2 j _ hj'⟩
              refine .sl (by omega) hl (fun h => by cases h) hb (fun _ => hb) (fun x hx => ?_) (fun i j => (W.cell? ⟨b, o + i * P.cellsOf e + j, none⟩).getD undef) (fun i hi j hj => ?_) (fun i hi j hj => ?_)
              · obtain ⟨i, hi, rfl⟩ := List.getElem_of_mem hx
                exact (hxs i (by omega) hi).2.1
              · obtain ⟨v, h1, _⟩ := hcel i hi j hj
                rw [h1]; rfl
              · obtain ⟨v, h1, h2⟩ := hcel i hi j (by rw [(hxs i (by omega) hi).2.1] at hj; exact hj)
                rw [h1]
                exact h2 hi hj
          refine ⟨.sl true false (P.cellsOf e) xs, .sl ht (by simp [hxl]) (by omega) (fun i h1 h2 => by simpa using (hxs i (by simpa using h1) h2).1), hc1.symm, .one hv, ?_⟩
          rintro v (⟨ys, rfl, h1, h2⟩ | ⟨h1, h2⟩)
          · simp [aggT, ht] at h2
          · cases h1; exact hv
      · -- struct
        rename_i fs ht
        split at hp
        case h_2 => cases hp
        rename_i m hm
        split at hp
        case h_2 => cases hp
        rename_i hcm
        have hcm := Nat.eq_of_beq_eq_true hcm
        obtain ⟨ys, fu, hfu, hx, hl, hyl, hy⟩ := DataW.trod_struct ht h
        obtain rfl : fuel = fu := by omega
        cases hx
        have each : ∀ i (hi : i < fs.toList.length) (hi' : i < ys.length), ∃ x, RdD P (fs.toList[i]).type (ys[i]).1 x ∧ x.cells.length = P.cellsOf (fs.toList[i]).type ∧ CellsV W ((cs.drop (fs.toList[i]).offset).take (P.cellsOf (fs.toList[i]).type)) x.cells := by
          intro i hi hi'
          have h1 := hy i (fs.toList[i]) (by simp at hi; simp [hi])
          rw [List.getElem?_eq_getElem hi'] at h1
          obtain ⟨k, hk⟩ := hall n fs.toList hp i hi
          obtain ⟨x, k1, k2, k3, _⟩ := ih k _ _ (ys[i]).1 (ys[i]).2 h1 hk
          exact ⟨x, k1, k2, k3⟩
        have hfl : fs.toList.length = ys.length := by simp [hyl]
        have : ∃ xs : List AV, xs.length = fs.toList.length ∧ ∀ i (hi : i < fs.toList.length) (hi' : i < ys.length) (hx : i < xs.length), RdD P (fs.toList[i]).type (ys[i]).1 xs[i] ∧ xs[i].cells.length = P.cellsOf (fs.toList[i]).type ∧ CellsV W ((cs.drop (fs.toList[i]).offset).take (P.cellsOf (fs.toList[i]).type)) xs[i].cells := by
          refine ⟨(List.finRange fs.toList.length).map fun i => Classical.choose (each i.1 i.2 (by omega)), by simp, fun i hi hi' hx => ?_⟩
          simp only [List.getElem_map, List.getElem_finRange]
          exact Classical.choose_spec (each i hi hi')
        obtain ⟨xs, hxl, hxs⟩ := this
        obtain ⟨_, hcv⟩ := laidB_flat fs.toList 0 m W cs xs hm hxl (fun i h1 h2 => ⟨(hxs i h1 (by omega) h2).2.2, (hxs i h1 (by omega) h2).2.1⟩) (by omega)
        rw [List.drop_zero] at hcv
        refine ⟨.agg (xs.flatMap AV.cells), .st ht (by simp [hyl]) (by simpa using hxl) (fun i h1 h2 h3 => by
          have := (hxs i (by simpa using h3) (by simpa using h1) h2).1
          simp only [Array.getElem_toList, List.getElem_map] at this ⊢
          exact this), by show (xs.flatMap AV.cells).length = _; rw [← hcv.1]; omega, hcv, ?_⟩
        rintro v (⟨zs, rfl, h1, h2⟩ | ⟨h1, h2⟩)
        · refine .agg (by rw [← hcv.1, ← h1]; simp) (fun i hi => ?_)
          have h3 : i < cs.length := by rw [hcv.1]; exact hi
          have := hcv.2 i h3 hi
          subst h1
          rw [Array.getD_eq_getD_getElem?, Array.getElem?_eq_getElem (by simpa using h3)]
          simpa using this
        · simp [aggT, ht] at h2
      · cases hp

/-- An argument of a plain type. -/
theorem read_plain {H : Type} {enc : TypeId × Value → H} {P : Program} {W : World} {r : Reach} {base : Nat} {n : Nat} {t : TypeId} {v : Value} {d : DataW H} {ps : List MemPlace} (hp : plainB P n t = true) (hv : Value.okWide P W r base t v)
    (h : DataW.Trod enc P W 0 (fun _ => true) true t v d ps) : ∃ a, VRel (Rl.old W) W v a ∧ RdD P t d a := by
  obtain ⟨fuel, hf⟩ := h
  obtain ⟨a, h1, _, _, h2⟩ := read_cells fuel n t _ d ps hf hp
  refine ⟨a, h2 v ?_, h1⟩
  cases n with
  | zero => simp [plainB] at hp
  | succ n =>
    rw [plainB] at hp
    split at hp
    · rename_i ht
      obtain ⟨b, rfl⟩ := okWide_bool ht hv
      exact .inr ⟨rfl, by simp [aggT, ht]⟩
    · rename_i k ht
      obtain ⟨b, rfl⟩ := okWide_int ht hv
      exact .inr ⟨rfl, by simp [aggT, ht]⟩
    · rename_i ht
      obtain ⟨b, rfl⟩ := okWide_string ht hv
      exact .inr ⟨rfl, by simp [aggT, ht]⟩
    · rename_i e ht
      obtain ⟨a, len, cap, rfl⟩ := okWide_slice ht hv
      exact .inr ⟨rfl, by simp [aggT, ht]⟩
    · rename_i fs ht
      obtain ⟨cs, rfl, _⟩ := okWide_struct ht hv
      exact .inl ⟨cs, rfl, rfl, by simp [aggT, ht]⟩
    · cases hp

/-- Fields one by one. -/
def RdDAll (P : Program) {H : Type} : List Field → List (DataW H) → List AV → Prop
  | [], [], [] => True
  | f :: fs, d :: ds, x :: xs => RdD P f.type d x ∧ RdDAll P fs ds xs
  | _, _, _ => False

theorem RdDAll.of {P : Program} {H : Type} : ∀ {fs : List Field} {ds : List (DataW H)} {xs : List AV}, ds.length = fs.length → xs.length = fs.length → (∀ i (h1 : i < ds.length) (h2 : i < xs.length) (h3 : i < fs.length), RdD P fs[i].type ds[i] xs[i]) → RdDAll P fs ds xs
  | [], ds, xs, h1, h2, _ => by
    obtain rfl : ds = [] := List.eq_nil_of_length_eq_zero h1
    obtain rfl : xs = [] := List.eq_nil_of_length_eq_zero h2
    trivial
  | f :: fs, ds, xs, h1, h2, h => by
    cases ds with
    | nil => simp at h1
    | cons d ds =>
      cases xs with
      | nil => simp at h2
      | cons x xs =>
        exact ⟨h 0 (by simp) (by simp) (by simp), RdDAll.of (by simpa using h1) (by simpa using h2) (fun i k1 k2 k3 => h (i + 1) (Nat.succ_lt_succ k1) (Nat.succ_lt_succ k2) (Nat.succ_lt_succ k3))⟩

theorem RdDAll.cons {P : Program} {H : Type} {f : Field} {fs : List Field} {ds : List (DataW H)} {xs : List AV} (h : RdDAll P (f :: fs) ds xs) : ∃ d ds' x xs', ds = d :: ds' ∧ xs = x :: xs' ∧ RdD P f.type d x ∧ RdDAll P fs ds' xs' := by
  match ds, xs, h with
  | d :: ds', x :: xs', ⟨h1, h2⟩ => exact ⟨d, ds', x, xs', rfl, rfl, h1, h2⟩

theorem RdDAll.nil {P : Program} {H : Type} {ds : List (DataW H)} {xs : List AV} (h : RdDAll P [] ds xs) : ds = [] ∧ xs = [] := by
  match ds, xs, h with
  | [], [], _ => exact ⟨rfl, rfl⟩

section
variable {P : Program} {H : Type} {t : TypeId} {d : DataW H} {a : AV}

theorem RdD.inv_st {fs : Array Field} (h : RdD P t d a) (ht : P.underlying t = some (.struct fs)) : ∃ ds xs, d = .agg ds ∧ a = .agg (xs.flatMap AV.cells) ∧ RdDAll P fs.toList ds xs := by
  cases h with
  | st ht' hd hx h =>
    rw [ht] at ht'
    cases ht'
    exact ⟨_, _, rfl, rfl, .of (by simpa using hd) (by simpa using hx) (fun i h1 h2 h3 => by simpa using h i h1 h2 (by simpa using h3))⟩
  | bool ht' => rw [ht] at ht'; cases ht'
  | str ht' => rw [ht] at ht'; cases ht'
  | int ht' => rw [ht] at ht'; cases ht'
  | nils ht' => rw [ht] at ht'; cases ht'
  | sl ht' => rw [ht] at ht'; cases ht'

theorem RdD.inv_str (h : RdD P t d a) (ht : P.underlying t = some .string) : ∃ s, d = .lit (.string s) ∧ a = .str s ∧ s.length ≤ maxLen := by
  cases h with
  | str ht' hs => exact ⟨_, rfl, rfl, hs⟩
  | bool ht' => rw [ht] at ht'; cases ht'
  | int ht' => rw [ht] at ht'; cases ht'
  | nils ht' => rw [ht] at ht'; cases ht'
  | sl ht' => rw [ht] at ht'; cases ht'
  | st ht' => rw [ht] at ht'; cases ht'

theorem RdD.inv_int {k : IntKind} (h : RdD P t d a) (ht : P.underlying t = some (.int k)) : ∃ n, d = .lit (.int k n) ∧ a = .int k n ∧ (Lit.int k n).wf = true := by
  cases h with
  | int ht' hs => rw [ht] at ht'; cases ht'; exact ⟨_, rfl, rfl, hs⟩
  | bool ht' => rw [ht] at ht'; cases ht'
  | str ht' => rw [ht] at ht'; cases ht'
  | nils ht' => rw [ht] at ht'; cases ht'
  | sl ht' => rw [ht] at ht'; cases ht'
  | st ht' => rw [ht] at ht'; cases ht'

theorem RdD.inv_bool (h : RdD P t d a) (ht : P.underlying t = some .bool) : ∃ b, d = .lit (.bool b) ∧ a = .bool b := by
  cases h with
  | bool ht' => exact ⟨_, rfl, rfl⟩
  | int ht' => rw [ht] at ht'; cases ht'
  | str ht' => rw [ht] at ht'; cases ht'
  | nils ht' => rw [ht] at ht'; cases ht'
  | sl ht' => rw [ht] at ht'; cases ht'
  | st ht' => rw [ht] at ht'; cases ht'

theorem RdD.inv_sl {e : TypeId} (h : RdD P t d a) (ht : P.underlying t = some (.slice e)) :
    ∃ (ds : List (DataW H)) (xs : List AV), a = .sl true false (P.cellsOf e) xs ∧ xs.length = ds.length ∧ xs.length ≤ maxLen ∧ (∀ i (h1 : i < ds.length) (h2 : i < xs.length), RdD P e ds[i] xs[i]) ∧ ((d = .nil ∧ ds = []) ∨ ∃ rest, d = .slice ds rest) := by
  cases h with
  | nils ht' => rw [ht] at ht'; cases ht'; exact ⟨[], [], rfl, rfl, Nat.zero_le _, fun i h => absurd h (by simp), .inl ⟨rfl, rfl⟩⟩
  | sl ht' hl hm h => rw [ht] at ht'; cases ht'; exact ⟨_, _, rfl, hl, hm, h, .inr ⟨_, rfl⟩⟩
  | bool ht' => rw [ht] at ht'; cases ht'
  | int ht' => rw [ht] at ht'; cases ht'
  | str ht' => rw [ht] at ht'; cases ht'
  | st ht' => rw [ht] at ht'; cases ht'

theorem int_bd {n : Int} (h : (Lit.int .i64 n).wf = true) : -9223372036854775808 ≤ n ∧ n ≤ 9223372036854775807 := by
  simpa [Lit.wf, IntKind.min, IntKind.max, IntKind.signed, IntKind.bits] using h

/-- A slice whose elements each stand for something. -/
theorem RdD.each {α : Type} {e : TypeId} (f : α → AV) (g : α → DataW H → Prop) {ds : List (DataW H)} {xs : List AV} (hl : xs.length = ds.length) (h : ∀ i (h1 : i < ds.length) (h2 : i < xs.length), RdD P e ds[i] xs[i])
    (hf : ∀ d x, RdD P e d x → ∃ y, x = f y ∧ g y d) : ∃ ys : List α, xs = ys.map f ∧ ys.length = ds.length ∧ ∀ i (h1 : i < ds.length) (h2 : i < ys.length), g ys[i] ds[i] := by
  induction xs generalizing ds with
  | nil =>
    obtain rfl : ds = [] := List.eq_nil_of_length_eq_zero (by simpa using hl.symm)
    exact ⟨[], rfl, rfl, fun i h => absurd h (by simp)⟩
  | cons x xs ih =>
    cases ds with
    | nil => simp at hl
    | cons d ds =>
      obtain ⟨y, hy, hg⟩ := hf d x (h 0 (by simp) (by simp))
      obtain ⟨ys, h1, h2, h3⟩ := ih (ds := ds) (by simpa using hl) (fun i k1 k2 => h (i + 1) (Nat.succ_lt_succ k1) (Nat.succ_lt_succ k2))
      refine ⟨y :: ys, by rw [hy, h1]; rfl, by simp [h2], fun i k1 k2 => ?_⟩
      cases i with
      | zero => exact hg
      | succ i => exact h3 i (Nat.lt_of_succ_lt_succ k1) (Nat.lt_of_succ_lt_succ k2)
end

end Go.Ab
