/-
  Texts of our own, in one file.
-/
import Derived.Test.YtnfalbdnkgaelaaDoorGrpD
import Derived.WideShapes
section
set_option linter.unusedVariables false
set_option linter.unusedSimpArgs false
namespace Go.Ab
open Go Go.WideShapes
def laidB (P : Program) : List Field → Nat → Option Nat
  | [], o => some o
  | f :: r, o => match Nat.beq f.offset o with
    | true => laidB P r (o + P.cellsOf f.type)
    | false => none
mutual
def plainB (P : Program) : Nat → TypeId → Bool
  | 0, _ => false
  | n + 1, t => match P.underlying t with
    | some .bool => Nat.beq (P.cellsOf t) 1
    | some (.int _) => Nat.beq (P.cellsOf t) 1
    | some .string => Nat.beq (P.cellsOf t) 1
    | some (.slice e) => match Nat.beq (P.cellsOf t) 1, Nat.beq (P.cellsOf e) 0 with
      | true, false => plainB P n e
      | _, _ => false
    | some (.struct fs) => match laidB P fs.toList 0 with
      | some m => match Nat.beq (P.cellsOf t) m with
        | true => plainAll P n fs.toList
        | false => false
      | none => false
    | _ => false
def plainAll (P : Program) : Nat → List Field → Bool
  | 0, _ => false
  | n + 1, fs => match fs with
    | [] => true
    | f :: r => match plainB P n f.type with
      | true => plainAll P n r
      | false => false
end
inductive RdD (P : Program) {H : Type} : TypeId → DataW H → AV → Prop
  | bool {t b} (ht : P.underlying t = some .bool) : RdD P t (.lit (.bool b)) (.bool b)
  | int {t k n} (ht : P.underlying t = some (.int k)) (hw : (Lit.int k n).wf = true) : RdD P t (.lit (.int k n)) (.int k n)
  | str {t s} (ht : P.underlying t = some .string) (hs : s.length ≤ maxLen) : RdD P t (.lit (.string s)) (.str s)
  | nils {t e} (ht : P.underlying t = some (.slice e)) : RdD P t .nil (.sl true false (P.cellsOf e) [])
  | sl {t e} {ds rest : List (DataW H)} {xs : List AV} (ht : P.underlying t = some (.slice e)) (hl : xs.length = ds.length) (hm : xs.length ≤ maxLen) (h : ∀ i (h1 : i < ds.length) (h2 : i < xs.length), RdD P e ds[i] xs[i]) : RdD P t (.slice ds rest) (.sl true false (P.cellsOf e) xs)
  | st {t} {fs : Array Field} {ds : List (DataW H)} {xs : List AV} (ht : P.underlying t = some (.struct fs)) (hd : ds.length = fs.size) (hx : xs.length = fs.size) (h : ∀ i (h1 : i < ds.length) (h2 : i < xs.length) (h3 : i < fs.size), RdD P fs[i].type ds[i] xs[i]) : RdD P t (.agg ds) (.agg (xs.flatMap AV.cells))
def CellsV (w : World) (cs : List Value) (az : List AV) : Prop := cs.length = az.length ∧ ∀ i (h1 : i < cs.length) (h2 : i < az.length), VRel (Rl.old w) w cs[i] az[i]
theorem CellsV.one {w : World} {v : Value} {a : AV} (h : VRel (Rl.old w) w v a) : CellsV w [v] [a] := by
  refine ⟨rfl, fun i h1 h2 => ?_⟩
  obtain rfl : i = 0 := by simpa using h1
  exact h
theorem laidB_flat {P : Program} : ∀ (fs : List Field) (o m : Nat) (w : World) (cs : List Value) (xs : List AV), laidB P fs o = some m → xs.length = fs.length → (∀ i (h1 : i < fs.length) (h2 : i < xs.length), CellsV w ((cs.drop fs[i].offset).take (P.cellsOf fs[i].type)) xs[i].cells ∧ xs[i].cells.length = P.cellsOf fs[i].type) →
    cs.length = m → o ≤ m ∧ CellsV w (cs.drop o) (xs.flatMap AV.cells)
  | [], o, m, w, cs, xs, h, hl, hc, hm => by
    simp only [laidB, Option.some.injEq] at h
    obtain rfl : xs = [] := List.eq_nil_of_length_eq_zero hl
    subst h
    refine ⟨Nat.le_refl _, ?_⟩
    rw [List.drop_of_length_le (by omega)]
    exact ⟨rfl, fun i h => absurd h (by simp)⟩
  | f :: r, o, m, w, cs, xs, h, hl, hc, hm => by
    rw [laidB] at h
    split at h
    case h_2 => cases h
    rename_i hb
    have ho := Nat.eq_of_beq_eq_true hb
    obtain ⟨x, xs, rfl⟩ : ∃ x xs', xs = x :: xs' := by
      cases xs with
      | nil => simp at hl
      | cons x xs => exact ⟨x, xs, rfl⟩
    have h0 := hc 0 (by simp) (by simp)
    simp only [List.getElem_cons_zero] at h0
    obtain ⟨h1, h2⟩ := laidB_flat r (o + P.cellsOf f.type) m w cs xs h (by simpa using hl) (fun i k1 k2 => hc (i + 1) (Nat.succ_lt_succ k1) (Nat.succ_lt_succ k2)) hm
    refine ⟨by omega, ?_⟩
    obtain ⟨⟨e1, e2⟩, e3⟩ := h0
    rw [ho] at e1 e2
    rw [List.flatMap_cons]
    have hsplit : cs.drop o = (cs.drop o).take (P.cellsOf f.type) ++ cs.drop (o + P.cellsOf f.type) := by
      rw [← List.drop_drop, List.take_append_drop]
    rw [hsplit]
    refine ⟨by rw [List.length_append, List.length_append, e1, h2.1], fun i k1 k2 => ?_⟩
    by_cases hi : i < x.cells.length
    · rw [List.getElem_append_left (by omega), List.getElem_append_left hi]
      exact e2 i (by omega) hi
    · rw [List.getElem_append_right (by omega), List.getElem_append_right (by omega)]
      have : i - ((cs.drop o).take (P.cellsOf f.type)).length = i - x.cells.length := by omega
      simp only [this]
      exact h2.2 _ _ _
theorem read_cells {H : Type} {enc : TypeId × Value → H} {P : Program} {W : World} : ∀ (fuel n : Nat) (t : TypeId) (cs : List Value) (d : DataW H) (ps : List MemPlace), DataW.trod enc P W 0 (fun _ => true) true fuel t cs = some (d, ps) → plainB P n t = true →
    ∃ a, RdD P t d a ∧ a.cells.length = P.cellsOf t ∧ CellsV W cs a.cells ∧ (∀ v, (∃ xs, v = .agg xs ∧ xs.toList = cs ∧ aggT P t = some true) ∨ ([v] = cs ∧ aggT P t = some false) → VRel (Rl.old W) W v a) := by
  intro fuel
  induction fuel with
  | zero => intro n t cs d ps h _; simp [DataW.trod] at h
  | succ fuel ih =>
    intro n t cs d ps h hp
    have hall : ∀ (n : Nat) (fs : List Field), plainAll P n fs = true → ∀ i (hi : i < fs.length), ∃ m, plainB P m fs[i].type = true := by
      intro n
      induction n with
      | zero => intro fs h; simp [plainAll] at h
      | succ n ihn =>
        intro fs h i hi
        cases fs with
        | nil => simp at hi
        | cons f r =>
          rw [plainAll] at h
          split at h
          · rename_i hb
            cases i with
            | zero => exact ⟨n, hb⟩
            | succ i => exact ihn r h i (by simpa using hi)
          · cases h
    cases n with
    | zero => simp [plainB] at hp
    | succ n =>
      rw [plainB] at hp
      split at hp
      ·
        rename_i ht
        obtain ⟨b, rfl, hx⟩ := DataW.trod_bool ht h
        cases hx
        refine ⟨.bool b, .bool ht, (Nat.eq_of_beq_eq_true hp).symm, .one .bool, ?_⟩
        rintro v (⟨xs, rfl, h1, h2⟩ | ⟨h1, h2⟩)
        · simp [aggT, ht] at h2
        · cases h1; exact .bool
      · rename_i k ht
        obtain ⟨m, rfl, hx, hw⟩ := DataW.trod_int ht h
        cases hx
        refine ⟨.int _ m, .int ht hw, (Nat.eq_of_beq_eq_true hp).symm, .one .int, ?_⟩
        rintro v (⟨xs, rfl, h1, h2⟩ | ⟨h1, h2⟩)
        · simp [aggT, ht] at h2
        · cases h1; exact .int
      · rename_i ht
        obtain ⟨s, rfl, hx, hw⟩ := DataW.trod_string ht h
        cases hx
        refine ⟨.str s.data.toList, .str ht (by rw [Array.length_toList]; exact hw), (Nat.eq_of_beq_eq_true hp).symm, .one (.str rfl), ?_⟩
        rintro v (⟨xs, rfl, h1, h2⟩ | ⟨h1, h2⟩)
        · simp [aggT, ht] at h2
        · cases h1; exact .str rfl
      ·
        rename_i e ht
        split at hp
        case h_2 => cases hp
        rename_i hc1 hc0
        have hc1 := Nat.eq_of_beq_eq_true hc1
        have hpos : 0 < P.cellsOf e := by
          rcases Nat.eq_zero_or_pos (P.cellsOf e) with h0 | h0
          · rw [h0] at hc0; cases hc0
          · exact h0
        rcases DataW.trod_slice ht h with ⟨rfl, hx⟩ | ⟨a, len, cap, elems, rest, fu, hfu, rfl, hx, _, hl, hm, hlen, hel, hsp, hns⟩
        · cases hx
          refine ⟨_, .nils ht, hc1.symm, .one (.sl0 (fun h => by cases h)), ?_⟩
          rintro v (⟨xs, rfl, h1, h2⟩ | ⟨h1, h2⟩)
          · simp [aggT, ht] at h2
          · cases h1; exact .sl0 (fun h => by cases h)
        · cases hx
          obtain rfl : fuel = fu := by omega
          have each : ∀ i (hi : i < elems.length), ∃ x, RdD P e (elems[i]).1 x ∧ x.cells.length = P.cellsOf e ∧ ∃ ecs : List Value, W.cells? 0 (a.add (i * P.cellsOf e)) (P.cellsOf e) = some ecs ∧ CellsV W ecs x.cells := by
            intro i hi
            have h1 := hel i (by omega)
            rw [List.getElem?_eq_getElem hi, Option.bind_eq_some_iff] at h1
            obtain ⟨ecs, h2, h3⟩ := h1
            obtain ⟨x, k1, k2, k3, _⟩ := ih n e ecs (elems[i]).1 (elems[i]).2 h3 hp
            exact ⟨x, k1, k2, ecs, h2, k3⟩
          have : ∃ xs : List AV, xs.length = elems.length ∧ ∀ i (hi : i < elems.length) (hx : i < xs.length), RdD P e (elems[i]).1 xs[i] ∧ xs[i].cells.length = P.cellsOf e ∧ ∃ ecs : List Value, W.cells? 0 (a.add (i * P.cellsOf e)) (P.cellsOf e) = some ecs ∧ CellsV W ecs xs[i].cells := by
            refine ⟨(List.finRange elems.length).map fun i => Classical.choose (each i.1 i.2), by simp, fun i hi hx => ?_⟩
            simp only [List.getElem_map, List.getElem_finRange]
            exact Classical.choose_spec (each i hi)
          obtain ⟨xs, hxl, hxs⟩ := this
          have hv : VRel (Rl.old W) W (.slice (some a) len cap) (.sl true false (P.cellsOf e) xs) := by
            rcases Nat.eq_zero_or_pos len with h0 | h0
            · subst h0
              obtain rfl : xs = [] := List.eq_nil_of_length_eq_zero (by omega)
              exact .sl0 (fun h => by cases h)
            · obtain ⟨b, o, sp⟩ := a
              obtain ⟨_, _, ecs0, hc, _⟩ := hxs 0 (by omega) (by omega)
              obtain ⟨_, hcl, hcc⟩ := World.cells?_some hc
              have hcell0 := hcc 0 hpos
              rw [List.getElem?_eq_getElem (by omega)] at hcell0
              have hsp : sp = none := by
                cases sp with
                | none => rfl
                | some s =>
                  simp [Addr.add, World.cell?] at hcell0
                  split at hcell0 <;> cases hcell0
              subst hsp
              have hb : b < W.heap.size := by
                rw [Addr.add_lit] at hcell0
                rcases Nat.lt_or_ge b W.heap.size with h | h
                · exact h
                · simp [World.cell?, Addr.add, Array.getElem?_eq_none h] at hcell0
              have hcel : ∀ i, i < xs.length → ∀ j, j < P.cellsOf e → ∃ v, W.cell? ⟨b, o + i * P.cellsOf e + j, none⟩ = some v ∧ ∀ (hi : i < xs.length) (hj : j < (AV.cells xs[i]).length), VRel (Rl.old W) W v (AV.cells xs[i])[j] := by
                intro i hi j hj
                obtain ⟨_, hxc, ecs, hc, hcv⟩ := hxs i (by omega) hi
                obtain ⟨_, hcl, hcc⟩ := World.cells?_some hc
                have h1 := hcc j hj
                rw [List.getElem?_eq_getElem (by omega)] at h1
                rw [Addr.add_lit, Addr.add_lit] at h1
                refine ⟨ecs[j], h1, fun _ hj' => hcv.2 j _ hj'⟩
              refine .sl (by omega) hl (fun h => by cases h) hb (fun _ => hb) (fun x hx => ?_) (fun i j => (W.cell? ⟨b, o + i * P.cellsOf e + j, none⟩).getD undef) (fun i hi j hj => ?_) (fun i hi j hj => ?_)
              · obtain ⟨i, hi, rfl⟩ := List.getElem_of_mem hx
                exact (hxs i (by omega) hi).2.1
              · obtain ⟨v, h1, _⟩ := hcel i hi j hj
                rw [h1]; rfl
              · obtain ⟨v, h1, h2⟩ := hcel i hi j (by rw [(hxs i (by omega) hi).2.1] at hj; exact hj)
                rw [h1]
                exact h2 hi hj
          refine ⟨.sl true false (P.cellsOf e) xs, .sl ht (by simp [hxl]) (by omega) (fun i h1 h2 => by simpa using (hxs i (by simpa using h1) h2).1), hc1.symm, .one hv, ?_⟩
          rintro v (⟨ys, rfl, h1, h2⟩ | ⟨h1, h2⟩)
          · simp [aggT, ht] at h2
          · cases h1; exact hv
      ·
        rename_i fs ht
        split at hp
        case h_2 => cases hp
        rename_i m hm
        split at hp
        case h_2 => cases hp
        rename_i hcm
        have hcm := Nat.eq_of_beq_eq_true hcm
        obtain ⟨ys, fu, hfu, hx, hl, hyl, hy⟩ := DataW.trod_struct ht h
        obtain rfl : fuel = fu := by omega
        cases hx
        have each : ∀ i (hi : i < fs.toList.length) (hi' : i < ys.length), ∃ x, RdD P (fs.toList[i]).type (ys[i]).1 x ∧ x.cells.length = P.cellsOf (fs.toList[i]).type ∧ CellsV W ((cs.drop (fs.toList[i]).offset).take (P.cellsOf (fs.toList[i]).type)) x.cells := by
          intro i hi hi'
          have h1 := hy i (fs.toList[i]) (by simp at hi; simp [hi])
          rw [List.getElem?_eq_getElem hi'] at h1
          obtain ⟨k, hk⟩ := hall n fs.toList hp i hi
          obtain ⟨x, k1, k2, k3, _⟩ := ih k _ _ (ys[i]).1 (ys[i]).2 h1 hk
          exact ⟨x, k1, k2, k3⟩
        have hfl : fs.toList.length = ys.length := by simp [hyl]
        have : ∃ xs : List AV, xs.length = fs.toList.length ∧ ∀ i (hi : i < fs.toList.length) (hi' : i < ys.length) (hx : i < xs.length), RdD P (fs.toList[i]).type (ys[i]).1 xs[i] ∧ xs[i].cells.length = P.cellsOf (fs.toList[i]).type ∧ CellsV W ((cs.drop (fs.toList[i]).offset).take (P.cellsOf (fs.toList[i]).type)) xs[i].cells := by
          refine ⟨(List.finRange fs.toList.length).map fun i => Classical.choose (each i.1 i.2 (by omega)), by simp, fun i hi hi' hx => ?_⟩
          simp only [List.getElem_map, List.getElem_finRange]
          exact Classical.choose_spec (each i hi hi')
        obtain ⟨xs, hxl, hxs⟩ := this
        obtain ⟨_, hcv⟩ := laidB_flat fs.toList 0 m W cs xs hm hxl (fun i h1 h2 => ⟨(hxs i h1 (by omega) h2).2.2, (hxs i h1 (by omega) h2).2.1⟩) (by omega)
        rw [List.drop_zero] at hcv
        refine ⟨.agg (xs.flatMap AV.cells), .st ht (by simp [hyl]) (by simpa using hxl) (fun i h1 h2 h3 => by
          have := (hxs i (by simpa using h3) (by simpa using h1) h2).1
          simp only [Array.getElem_toList, List.getElem_map] at this ⊢
          exact this), by show (xs.flatMap AV.cells).length = _; rw [← hcv.1]; omega, hcv, ?_⟩
        rintro v (⟨zs, rfl, h1, h2⟩ | ⟨h1, h2⟩)
        · refine .agg (by rw [← hcv.1, ← h1]; simp) (fun i hi => ?_)
          have h3 : i < cs.length := by rw [hcv.1]; exact hi
          have := hcv.2 i h3 hi
          subst h1
          rw [Array.getD_eq_getD_getElem?, Array.getElem?_eq_getElem (by simpa using h3)]
          simpa using this
        · simp [aggT, ht] at h2
      · cases hp
theorem read_plain {H : Type} {enc : TypeId × Value → H} {P : Program} {W : World} {r : Reach} {base : Nat} {n : Nat} {t : TypeId} {v : Value} {d : DataW H} {ps : List MemPlace} (hp : plainB P n t = true) (hv : Value.okWide P W r base t v)
    (h : DataW.Trod enc P W 0 (fun _ => true) true t v d ps) : ∃ a, VRel (Rl.old W) W v a ∧ RdD P t d a := by
  obtain ⟨fuel, hf⟩ := h
  obtain ⟨a, h1, _, _, h2⟩ := read_cells fuel n t _ d ps hf hp
  refine ⟨a, h2 v ?_, h1⟩
  cases n with
  | zero => simp [plainB] at hp
  | succ n =>
    rw [plainB] at hp
    split at hp
    · rename_i ht
      obtain ⟨b, rfl⟩ := okWide_bool ht hv
      exact .inr ⟨rfl, by simp [aggT, ht]⟩
    · rename_i k ht
      obtain ⟨b, rfl⟩ := okWide_int ht hv
      exact .inr ⟨rfl, by simp [aggT, ht]⟩
    · rename_i ht
      obtain ⟨b, rfl⟩ := okWide_string ht hv
      exact .inr ⟨rfl, by simp [aggT, ht]⟩
    · rename_i e ht
      obtain ⟨a, len, cap, rfl⟩ := okWide_slice ht hv
      exact .inr ⟨rfl, by simp [aggT, ht]⟩
    · rename_i fs ht
      obtain ⟨cs, rfl, _⟩ := okWide_struct ht hv
      exact .inl ⟨cs, rfl, rfl, by simp [aggT, ht]⟩
    · cases hp
def RdDAll (P : Program) {H : Type} : List Field → List (DataW H) → List AV → Prop
  | [], [], [] => True
  | f :: fs, d :: ds, x :: xs => RdD P f.type d x ∧ RdDAll P fs ds xs
  | _, _, _ => False
theorem RdDAll.of {P : Program} {H : Type} : ∀ {fs : List Field} {ds : List (DataW H)} {xs : List AV}, ds.length = fs.length → xs.length = fs.length → (∀ i (h1 : i < ds.length) (h2 : i < xs.length) (h3 : i < fs.length), RdD P fs[i].type ds[i] xs[i]) → RdDAll P fs ds xs
  | [], ds, xs, h1, h2, _ => by
    obtain rfl : ds = [] := List.eq_nil_of_length_eq_zero h1
    obtain rfl : xs = [] := List.eq_nil_of_length_eq_zero h2
    trivial
  | f :: fs, ds, xs, h1, h2, h => by
    cases ds with
    | nil => simp at h1
    | cons d ds =>
      cases xs with
      | nil => simp at h2
      | cons x xs =>
        exact ⟨h 0 (by simp) (by simp) (by simp), RdDAll.of (by simpa using h1) (by simpa using h2) (fun i k1 k2 k3 => h (i + 1) (Nat.succ_lt_succ k1) (Nat.succ_lt_succ k2) (Nat.succ_lt_succ k3))⟩
theorem RdDAll.cons {P : Program} {H : Type} {f : Field} {fs : List Field} {ds : List (DataW H)} {xs : List AV} (h : RdDAll P (f :: fs) ds xs) : ∃ d ds' x xs', ds = d :: ds' ∧ xs = x :: xs' ∧ RdD P f.type d x ∧ RdDAll P fs ds' xs' := by
  match ds, xs, h with
  | d :: ds', x :: xs', ⟨h1, h2⟩ => exact ⟨d, ds', x, xs', rfl, rfl, h1, h2⟩
theorem RdDAll.nil {P : Program} {H : Type} {ds : List (DataW H)} {xs : List AV} (h : RdDAll P [] ds xs) : ds = [] ∧ xs = [] := by
  match ds, xs, h with
  | [], [], _ => exact ⟨rfl, rfl⟩
section
variable {P : Program} {H : Type} {t : TypeId} {d : DataW H} {a : AV}
theorem RdD.inv_st {fs : Array Field} (h : RdD P t d a) (ht : P.underlying t = some (.struct fs)) : ∃ ds xs, d = .agg ds ∧ a = .agg (xs.flatMap AV.cells) ∧ RdDAll P fs.toList ds xs := by
  cases h with
  | st ht' hd hx h =>
    rw [ht] at ht'
    cases ht'
    exact ⟨_, _, rfl, rfl, .of (by simpa using hd) (by simpa using hx) (fun i h1 h2 h3 => by simpa using h i h1 h2 (by simpa using h3))⟩
  | bool ht' => rw [ht] at ht'; cases ht'
  | str ht' => rw [ht] at ht'; cases ht'
  | int ht' => rw [ht] at ht'; cases ht'
  | nils ht' => rw [ht] at ht'; cases ht'
  | sl ht' => rw [ht] at ht'; cases ht'
theorem RdD.inv_str (h : RdD P t d a) (ht : P.underlying t = some .string) : ∃ s, d = .lit (.string s) ∧ a = .str s ∧ s.length ≤ maxLen := by
  cases h with
  | str ht' hs => exact ⟨_, rfl, rfl, hs⟩
  | bool ht' => rw [ht] at ht'; cases ht'
  | int ht' => rw [ht] at ht'; cases ht'
  | nils ht' => rw [ht] at ht'; cases ht'
  | sl ht' => rw [ht] at ht'; cases ht'
  | st ht' => rw [ht] at ht'; cases ht'
theorem RdD.inv_sl {e : TypeId} (h : RdD P t d a) (ht : P.underlying t = some (.slice e)) :
    ∃ (ds : List (DataW H)) (xs : List AV), a = .sl true false (P.cellsOf e) xs ∧ xs.length = ds.length ∧ xs.length ≤ maxLen ∧ (∀ i (h1 : i < ds.length) (h2 : i < xs.length), RdD P e ds[i] xs[i]) ∧ ((d = .nil ∧ ds = []) ∨ ∃ rest, d = .slice ds rest) := by
  cases h with
  | nils ht' => rw [ht] at ht'; cases ht'; exact ⟨[], [], rfl, rfl, Nat.zero_le _, fun i h => absurd h (by simp), .inl ⟨rfl, rfl⟩⟩
  | sl ht' hl hm h => rw [ht] at ht'; cases ht'; exact ⟨_, _, rfl, hl, hm, h, .inr ⟨_, rfl⟩⟩
  | bool ht' => rw [ht] at ht'; cases ht'
  | int ht' => rw [ht] at ht'; cases ht'
  | str ht' => rw [ht] at ht'; cases ht'
  | st ht' => rw [ht] at ht'; cases ht'
theorem RdD.each {α : Type} {e : TypeId} (f : α → AV) (g : α → DataW H → Prop) {ds : List (DataW H)} {xs : List AV} (hl : xs.length = ds.length) (h : ∀ i (h1 : i < ds.length) (h2 : i < xs.length), RdD P e ds[i] xs[i])
    (hf : ∀ d x, RdD P e d x → ∃ y, x = f y ∧ g y d) : ∃ ys : List α, xs = ys.map f ∧ ys.length = ds.length ∧ ∀ i (h1 : i < ds.length) (h2 : i < ys.length), g ys[i] ds[i] := by
  induction xs generalizing ds with
  | nil =>
    obtain rfl : ds = [] := List.eq_nil_of_length_eq_zero (by simpa using hl.symm)
    exact ⟨[], rfl, rfl, fun i h => absurd h (by simp)⟩
  | cons x xs ih =>
    cases ds with
    | nil => simp at hl
    | cons d ds =>
      obtain ⟨y, hy, hg⟩ := hf d x (h 0 (by simp) (by simp))
      obtain ⟨ys, h1, h2, h3⟩ := ih (ds := ds) (by simpa using hl) (fun i k1 k2 => h (i + 1) (Nat.succ_lt_succ k1) (Nat.succ_lt_succ k2))
      refine ⟨y :: ys, by rw [hy, h1]; rfl, by simp [h2], fun i k1 k2 => ?_⟩
      cases i with
      | zero => exact hg
      | succ i => exact h3 i (Nat.lt_of_succ_lt_succ k1) (Nat.lt_of_succ_lt_succ k2)
end
end Go.Ab
end
section
set_option linter.unusedVariables false
set_option linter.unusedSimpArgs false
namespace Go.Ab
open Go Go.WideShapes
mutual
def avB : AV → Nat
  | .str s => s.length
  | .sl _ _ _ xs => avS xs
  | .agg cs => avC cs
  | _ => 0
def avS : List AV → Nat
  | [] => 0
  | x :: r => avB x + 1 + avS r
def avC : List AV → Nat
  | [] => 0
  | x :: r => avB x + avC r
end
theorem avC_append (a b : List AV) : avC (a ++ b) = avC a + avC b := by
  induction a with
  | nil => simp [avC]
  | cons x a ih => simp only [List.cons_append, avC, ih]; omega
theorem avC_cells (x : AV) : avC x.cells ≤ avB x := by
  cases x <;> simp [AV.cells, avC, avB]
theorem avC_flat (xs : List AV) : avC (xs.flatMap AV.cells) ≤ avC xs := by
  induction xs with
  | nil => simp
  | cons x xs ih =>
    have := avC_cells x
    simp only [List.flatMap_cons, avC_append, avC]; omega
theorem avC_le_avS (xs : List AV) : avC xs ≤ avS xs := by
  induction xs with
  | nil => simp [avC, avS]
  | cons x xs ih => simp only [avC, avS]; omega
theorem avS_mem {x : AV} : ∀ {xs : List AV}, x ∈ xs → avB x + 1 ≤ avS xs
  | y :: ys, h => by
    rcases List.mem_cons.1 h with rfl | h
    · simp only [avS]; omega
    · have := avS_mem h; simp only [avS]; omega
theorem bulk_all {P : Program} {H : Type} {B : DataW H → Nat} {BA : List (DataW H) → Nat} (hn : BA [] = 0) (hc : ∀ d r, BA (d :: r) = B d + BA r) : ∀ {ds : List (DataW H)} {xs : List AV}, xs.length = ds.length →
    (∀ i (h1 : i < ds.length) (h2 : i < xs.length), avB xs[i] + 1 ≤ B ds[i]) → avS xs ≤ BA ds
  | [], xs, hl, h => by
    obtain rfl : xs = [] := List.eq_nil_of_length_eq_zero (by simpa using hl)
    simp [avS]
  | d :: ds, xs, hl, h => by
    cases xs with
    | nil => simp at hl
    | cons x xs =>
      have h0 := h 0 (by simp) (by simp)
      have := bulk_all (P := P) (B := B) hn hc (ds := ds) (xs := xs) (by simpa using hl) (fun i h1 h2 => h (i + 1) (Nat.succ_lt_succ h1) (Nat.succ_lt_succ h2))
      simp only [avS, hc]
      simp only [List.getElem_cons_zero] at h0
      omega
theorem RdD.bulk {P : Program} {H : Type} {B : DataW H → Nat} {BA : List (DataW H) → Nat} (hn : BA [] = 0) (hc : ∀ d r, BA (d :: r) = B d + BA r) (h1 : ∀ d, 1 ≤ B d) (hs : ∀ s, B (.lit (.string s)) = s.length + 1)
    (hsl : ∀ a b, B (.slice a b) = BA a + BA b + 1) (hag : ∀ a, B (.agg a) = BA a + 1) {t : TypeId} {d : DataW H} {a : AV} (h : RdD P t d a) : avB a + 1 ≤ B d := by
  induction h with
  | bool => simpa [avB] using h1 _
  | int => simpa [avB] using h1 _
  | str => simp [avB, hs]
  | nils => simpa [avB, avS] using h1 _
  | sl ht hl hm h ih =>
    have := bulk_all (P := P) (B := B) hn hc hl ih
    rw [hsl]; simp only [avB]; omega
  | st ht hd hx h ih =>
    have := bulk_all (P := P) (B := B) hn hc (by omega) (fun i a b => ih i a b (by omega))
    rw [hag]; simp only [avB]
    rename_i t fs ds xs
    have k1 := avC_flat xs
    have k2 := avC_le_avS xs
    omega
end Go.Ab
end
section
set_option linter.unusedVariables false
set_option linter.unusedSimpArgs false
set_option maxRecDepth 20000
set_option maxHeartbeats 1000000
namespace Go.Proofs.YtnfalbdnkgaelaaDoor
open Go Go.Ab
theorem text_avB {x : List (List UInt8)} : ∀ s ∈ x, s.length ≤ avS (texts x) := fun s hs => by
  have : avB (.str s) + 1 ≤ avS (texts x) := avS_mem (by simp [texts, hs])
  simp only [avB] at this; omega
theorem len_avS : ∀ (xs : List AV), xs.length ≤ avS xs
  | [] => Nat.zero_le _
  | x :: r => by have := len_avS r; simp only [avS, List.length_cons]; omega
theorem tg_of {l : List Tg} {k : Nat} (h : avB (.sl true false 5 (tgs true l)) ≤ k) : l.length ≤ k ∧ ∀ t ∈ l, t.name.length ≤ k ∧ t.needs.length ≤ k ∧ t.outs.length ≤ k ∧ t.srcs.length ≤ k ∧ t.cmd.length ≤ k ∧ (∀ s ∈ t.srcs, s.length ≤ k) ∧ (∀ s ∈ t.outs, s.length ≤ k) := by
  have h : avS (tgs true l) ≤ k := h
  refine ⟨by have := len_avS (tgs true l); rw [tgs_len] at this; omega, fun t ht => ?_⟩
  have h1 : avB (tgA true t) + 1 ≤ avS (tgs true l) := avS_mem (List.mem_map_of_mem ht)
  have h2 : avB (AV.agg [.str t.name, .sl true false 1 (texts t.srcs), .sl true false 1 (texts t.needs), .sl true false 1 (texts t.outs), .sl true false 1 (texts t.cmd)]) + 1 ≤ avS (tgs true l) := h1
  simp only [avB, avC] at h2
  have e1 := len_avS (texts t.srcs)
  have e2 := len_avS (texts t.needs)
  have e3 := len_avS (texts t.outs)
  have e4 := len_avS (texts t.cmd)
  rw [texts_len] at e1 e2 e3 e4
  refine ⟨by omega, by omega, by omega, by omega, by omega, fun s hs => ?_, fun s hs => ?_⟩
  · have := text_avB s hs; omega
  · have := text_avB s hs; omega
theorem tgSz_of {l : List Tg} (h : avB (.sl true false 5 (tgs true l)) ≤ 1048576) : l.length ≤ 1000000000 ∧ TgSz l := by
  obtain ⟨h1, h2⟩ := tg_of h
  exact ⟨by omega, fun t ht => by have := (h2 t ht).1; omega, fun t ht => (h2 t ht).2.1⟩
theorem ord_full {l : List Tg} (hok : NmOk l) (P : Nat → Bool) (hcl : ∀ n ∈ smG l P l.length, ∀ k ∈ ndT l n, k ∈ smG l P l.length) : (ordG (ndT l) (smG l P l.length) (smG l P l.length).length []).length = (smG l P l.length).length ↔ hcG l P = false := by
  obtain ⟨g1, g2, g3⟩ := ord_good (needs := ndT l) (sm := smG l P l.length) (smG l P l.length).length [] .nil (fun n hn => by cases hn) (by simp)
  have h1 := ord_all hcl
  have h2 : (∀ c ∈ smG l P l.length, ¬ Way (NeedR (ndT l)) c c) ↔ hcG l P = false := by
    rw [hcG, List.any_eq_false]
    constructor
    · intro h i hi hh
      obtain ⟨p1, p2⟩ := Bool.and_eq_true_iff.1 hh
      have hi := List.mem_range.1 hi
      exact h (nmAt l i) (smG_mem.2 ⟨i, hi, p1, rfl⟩) ((rch_nm hok hi hi).1 p2)
    · intro h c hc hw
      obtain ⟨i, hi, p1, rfl⟩ := smG_mem.1 hc
      exact h i (List.mem_range.2 hi) (by rw [p1, (rch_nm hok hi hi).2 hw]; rfl)
  rw [← h2, ← h1]
  generalize ordG (ndT l) (smG l P l.length) (smG l P l.length).length [] = od at *
  constructor
  · intro hlen n hn
    refine Classical.byContradiction fun hno => ?_
    have := List.Nodup.length_le_of_subset (List.nodup_cons.2 ⟨hno, g1.nodup⟩) (l₂ := smG l P l.length) (fun x hx => by
      rcases List.mem_cons.1 hx with rfl | hx
      · exact hn
      · exact g2 x hx)
    rw [List.length_cons] at this; omega
  · intro hall
    have h3 := List.Nodup.length_le_of_subset g1.nodup (l₂ := smG l P l.length) g2
    have h4 := List.Nodup.length_le_of_subset (smG_nodup hok.nd P) (l₂ := od) hall
    omega
theorem begun_ok {σ : Heap} : ∃ args', Calc cx 17 args' (.bool true) ∧ Frzs σ [] args' := ⟨[], graphBegun_ok, .nil _⟩
end Go.Proofs.YtnfalbdnkgaelaaDoor
end
section
set_option linter.unusedVariables false
set_option linter.unusedSimpArgs false
set_option maxRecDepth 20000
set_option maxHeartbeats 1000000
namespace Go.Proofs.YtnfalbdnkgaelaaDoor
open Go Go.Ab
theorem sm_cone (l : List Tg) (at_ : Nat) : smG l (inG l at_) l.length = coneG l at_ := rfl
theorem cE_is {l : List Tg} {name : Nm} (h : akE l name = 0) : cE l name = if hcG l (inG l (atG l name)) = true then 10 else 0 := by
  obtain ⟨hok, hnm⟩ := ak_ok h
  have := ord_full hok (inG l (atG l name)) (by rw [sm_cone]; exact coneG_closed hok (atG_lt hnm))
  rw [sm_cone] at this
  unfold cE
  rw [if_pos h]
  show (if (ordG (ndT l) (coneG l (atG l name)) (coneG l (atG l name)).length []).length = (coneG l (atG l name)).length then 0 else 10) = _
  cases hc : hcG l (inG l (atG l name)) with
  | true =>
    rw [hc] at this
    rw [if_neg (fun e => by cases this.1 e), if_pos rfl]
  | false =>
    rw [if_pos (this.2 hc), if_neg (by simp)]
theorem cE_ak {l : List Tg} {name : Nm} (h : akE l name ≠ 0) : cE l name = akE l name := by unfold cE; rw [if_neg h]
end Go.Proofs.YtnfalbdnkgaelaaDoor
end
section
set_option linter.unusedVariables false
set_option linter.unusedSimpArgs false
set_option maxRecDepth 20000
set_option maxHeartbeats 1000000
namespace Go.Proofs.YtnfalbdnkgaelaaDoor
open Go Go.Ab
theorem Good.need {nd : Nm → List Nm} {c : List Nm} (h : Good nd c) : ∀ i (hi : i < c.length), ∀ k ∈ nd c[i], k ∈ c.take i := by
  induction h with
  | nil => intro i hi; cases hi
  | @snoc p b h hb hn ih =>
    intro i hi k hk
    rw [List.length_append] at hi
    by_cases h1 : i < p.length
    · rw [List.getElem_append_left h1] at hk
      rw [List.take_append_of_le_length (Nat.le_of_lt h1)]
      exact ih i h1 k hk
    · have hi : i < p.length + 1 := hi
      have e : i = p.length := by omega
      subst e
      rw [List.getElem_append_right (Nat.le_refl _)] at hk
      simp only [Nat.sub_self, List.getElem_cons_zero] at hk
      rw [List.take_append_of_le_length (Nat.le_refl _), List.take_length]
      exact hn k hk
theorem Good.pre {nd : Nm → List Nm} {c : List Nm} (h : Good nd c) : ∀ i, Good nd (c.take i) := by
  induction h with
  | nil => intro i; rw [List.take_nil]; exact .nil
  | @snoc p b h hb hn ih =>
    intro i
    by_cases h1 : i ≤ p.length
    · rw [List.take_append_of_le_length h1]; exact ih i
    · rw [List.take_of_length_le (by rw [List.length_append]; show p.length + 1 ≤ i; omega)]
      exact .snoc h hb hn
theorem dpK_other {n x : Nm} (hx : x ≠ n) : ∀ (ks : List Nm) (D : Nm → Nat), dpK n ks D x = D x
  | [], D => rfl
  | k :: r, D => by
    rw [dpK, dpK_other hx r]
    unfold updN
    rw [if_neg hx]
theorem dpK_max {n : Nm} {B : Nat} : ∀ (ks : List Nm) (D : Nm → Nat), n ∉ ks → D n ≤ B → (∀ k ∈ ks, D k + 1 ≤ B) → dpK n ks D n ≤ B
  | [], D, _, h, _ => h
  | k :: r, D, hn, h, hk => by
    have h1 := hk k (List.mem_cons_self ..)
    rw [dpK]
    refine dpK_max r _ (fun e => hn (List.mem_cons_of_mem _ e)) ?_ (fun x hx => ?_)
    · unfold updN; rw [if_pos rfl]; omega
    · unfold updN
      rw [if_neg (fun e : x = n => hn (List.mem_cons_of_mem _ (e ▸ hx)))]
      exact hk x (List.mem_cons_of_mem _ hx)
theorem dpO_out {nd : Nm → List Nm} {x : Nm} : ∀ (c : List Nm) (D : Nm → Nat), x ∉ c → dpO nd c D x = D x
  | [], D, _ => rfl
  | n :: r, D, h => by
    rw [dpO, dpO_out r _ (fun e => h (List.mem_cons_of_mem _ e)), dpK_other (show x ≠ n from fun e => h (by rw [e]; exact List.mem_cons_self ..))]
theorem dp_at {nd : Nm → List Nm} {c : List Nm} (h : Good nd c) : ∀ i (hi : i < c.length), dpO nd c (fun _ => 0) c[i] ≤ i := by
  induction h with
  | nil => intro i hi; cases hi
  | @snoc p b h hb hn ih =>
    intro i hi
    rw [List.length_append] at hi
    have hi : i < p.length + 1 := hi
    rw [dpO_snoc]
    by_cases h1 : i < p.length
    · rw [List.getElem_append_left h1, dpK_other (show p[i] ≠ b from fun e => hb (by rw [← e]; exact List.getElem_mem h1))]
      exact ih i h1
    · have e : i = p.length := by omega
      subst e
      rw [List.getElem_append_right (Nat.le_refl _)]
      simp only [Nat.sub_self, List.getElem_cons_zero]
      refine dpK_max _ _ (fun e => hb (hn b e)) (by rw [dpO_out p _ hb]; exact Nat.zero_le _) (fun k hk => ?_)
      obtain ⟨j, hj, rfl⟩ := List.getElem_of_mem (hn k hk)
      have := ih j hj
      omega
section
variable {l : List Tg} {a : Nm} (h0 : cE l a = 0)
include h0
theorem cE_ok : NmOk l ∧ a ∈ nmsG l := by
  by_cases h2 : akE l a = 0
  · exact ak_ok h2
  · rw [cE_ak h2] at h0; exact absurd h0 h2
theorem ordC_good : Good (ndT l) (ordC l a) ∧ (∀ x, x ∈ ordC l a ↔ x = a ∨ Way (NeedR (ndT l)) a x) := by
  obtain ⟨hok, hnm⟩ := cE_ok h0
  obtain ⟨g1, g2, g3⟩ := ord_good (needs := ndT l) (sm := cnG l a) (cnG l a).length [] .nil (fun n hn => by cases hn) (by simp)
  have hlen : (ordC l a).length = (cnG l a).length := by
    unfold cE at h0
    by_cases h2 : akE l a = 0
    · rw [if_pos h2] at h0
      by_cases h3 : (ordC l a).length = (cnG l a).length
      · exact h3
      · rw [if_neg h3] at h0; cases h0
    · rw [if_neg h2] at h0; exact absurd h0 h2
  have g1 : Good (ndT l) (ordC l a) := g1
  have g2 : ∀ n ∈ ordC l a, n ∈ cnG l a := g2
  refine ⟨g1, fun x => ?_⟩
  have hmem : x ∈ ordC l a ↔ x ∈ cnG l a := by
    refine ⟨g2 x, fun hx => Classical.byContradiction fun hno => ?_⟩
    have := List.Nodup.length_le_of_subset (List.nodup_cons.2 ⟨hno, g1.nodup⟩) (l₂ := cnG l a) (fun y hy => by
      rcases List.mem_cons.1 hy with rfl | hy
      · exact hx
      · exact g2 y hy)
    rw [List.length_cons] at this; omega
  rw [hmem]
  unfold cnG
  rw [coneG_mem hok (atG_lt hnm), nmAt_at hnm]
end
end Go.Proofs.YtnfalbdnkgaelaaDoor
end
section
set_option linter.unusedVariables false
set_option linter.unusedSimpArgs false
set_option maxRecDepth 20000
set_option maxHeartbeats 1000000
namespace Go.Proofs.YtnfalbdnkgaelaaDoor
open Go Go.Ab
def dpR (nd : Nm → List Nm) (ns : List Nm) : Nat → Nm → Nat
  | 0 => fun _ => 0
  | r + 1 => dpO nd ns (dpR nd ns r)
theorem dpR_le {nd : Nm → List Nm} (hln : ∀ n, (nd n).length ≤ 1048576) (ns : List Nm) : ∀ r k, dpR nd ns r k ≤ r * (ns.length * 1048576)
  | 0, k => Nat.zero_le _
  | r + 1, k => by
    have := dpO_le nd hln (b := r * (ns.length * 1048576)) ns (dpR nd ns r) (dpR_le hln ns r) k
    rw [Nat.add_mul, Nat.one_mul]
    exact this
theorem dpK_mono (n : Nm) : ∀ (ks : List Nm) (D : Nm → Nat) (x : Nm), D x ≤ dpK n ks D x
  | [], D, x => Nat.le_refl _
  | k :: r, D, x => by
    rw [dpK]
    refine Nat.le_trans ?_ (dpK_mono n r _ x)
    unfold updN
    split
    · rename_i h; subst h; exact Nat.le_max_left ..
    · exact Nat.le_refl _
theorem dpO_mono (nd : Nm → List Nm) : ∀ (c : List Nm) (D : Nm → Nat) (x : Nm), D x ≤ dpO nd c D x
  | [], D, x => Nat.le_refl _
  | n :: r, D, x => by
    rw [dpO]
    exact Nat.le_trans (dpK_mono n (nd n) D x) (dpO_mono nd r _ x)
theorem dpK_ge {n k : Nm} : ∀ (ks : List Nm) (D : Nm → Nat), k ∈ ks → D k + 1 ≤ dpK n ks D n
  | [], D, h => by cases h
  | q :: r, D, h => by
    rw [dpK]
    rcases List.mem_cons.1 h with rfl | h
    · refine Nat.le_trans ?_ (dpK_mono n r _ n)
      unfold updN
      rw [if_pos rfl]
      exact Nat.le_max_right ..
    · refine Nat.le_trans ?_ (dpK_ge r _ h)
      unfold updN
      split
      · rename_i e; subst e
        have := Nat.le_max_left (D k) (D q + 1)
        omega
      · exact Nat.le_refl _
theorem dpO_ge {nd : Nm → List Nm} {n k : Nm} (hk : k ∈ nd n) : ∀ (c : List Nm) (D : Nm → Nat), n ∈ c → D k + 1 ≤ dpO nd c D n
  | [], D, h => by cases h
  | q :: r, D, h => by
    rw [dpO]
    rcases List.mem_cons.1 h with rfl | h
    · exact Nat.le_trans (dpK_ge (nd n) D hk) (dpO_mono nd r _ n)
    · have h1 := dpK_mono q (nd q) D k
      have h2 := dpO_ge hk r (dpK q (nd q) D) h
      omega
theorem dpK_top {S : Nm → Prop} {H : Nm → Nat} {n : Nm} : ∀ (ks : List Nm) (D : Nm → Nat), (S n → ∀ k ∈ ks, S k ∧ H k + 1 ≤ H n) → (∀ x, S x → D x ≤ H x) → ∀ x, S x → dpK n ks D x ≤ H x
  | [], D, _, h => h
  | k :: r, D, hk, h => by
    rw [dpK]
    refine dpK_top r _ (fun hn q hq => hk hn q (List.mem_cons_of_mem _ hq)) fun x hx => ?_
    unfold updN
    split
    · rename_i e; subst e
      obtain ⟨h1, h2⟩ := hk hx k (List.mem_cons_self ..)
      have := h k h1
      have := h x hx
      omega
    · exact h x hx
theorem dpO_top {S : Nm → Prop} {H : Nm → Nat} {nd : Nm → List Nm} (hk : ∀ n, S n → ∀ k ∈ nd n, S k ∧ H k + 1 ≤ H n) : ∀ (c : List Nm) (D : Nm → Nat), (∀ x, S x → D x ≤ H x) → ∀ x, S x → dpO nd c D x ≤ H x
  | [], D, h => h
  | n :: r, D, h => by
    rw [dpO]
    exact dpO_top hk r _ (dpK_top (nd n) D (hk n) h)
theorem dp_fix {nd : Nm → List Nm} {c : List Nm} (h : Good nd c) : ∀ x ∈ c, (∀ k ∈ nd x, dpO nd c (fun _ => 0) k + 1 ≤ dpO nd c (fun _ => 0) x) ∧ (dpO nd c (fun _ => 0) x = 0 ∨ ∃ k ∈ nd x, dpO nd c (fun _ => 0) x = dpO nd c (fun _ => 0) k + 1) := by
  induction h with
  | nil => intro x hx; cases hx
  | @snoc p b h hb hn ih =>
    intro x hx
    rw [dpO_snoc]
    have hbn : b ∉ nd b := fun e => hb (hn b e)
    have hot : ∀ k, k ∈ p → dpK b (nd b) (dpO nd p fun _ => 0) k = dpO nd p (fun _ => 0) k := fun k hk => dpK_other (fun e => hb (by rw [← e]; exact hk)) _ _
    have hb0 : dpO nd p (fun _ => 0) b = 0 := dpO_out p _ hb
    rcases List.mem_append.1 hx with hx | hx
    · obtain ⟨h1, h2⟩ := ih x hx
      have hkp : ∀ k ∈ nd x, k ∈ p := fun k hk => by
        obtain ⟨i, hi, rfl⟩ := List.getElem_of_mem hx
        exact List.mem_of_mem_take (h.need i hi k hk)
      rw [hot x hx]
      refine ⟨fun k hk => by rw [hot k (hkp k hk)]; exact h1 k hk, ?_⟩
      rcases h2 with h2 | ⟨k, hk, h2⟩
      · exact .inl h2
      · exact .inr ⟨k, hk, by rw [hot k (hkp k hk)]; exact h2⟩
    · have hx := List.mem_singleton.1 hx
      subst hx
      refine ⟨fun k hk => by rw [hot k (hn k hk)]; exact dpK_ge _ _ hk, ?_⟩
      generalize dpO nd p (fun _ => 0) = D at *
      have key : ∀ (ks : List Nm) (E : Nm → Nat), x ∉ ks → (∀ k ∈ ks, E k = D k) → dpK x ks E x = E x ∨ ∃ k ∈ ks, dpK x ks E x = D k + 1 := by
        intro ks
        induction ks with
        | nil => intro E _ _; exact .inl rfl
        | cons k r ihr =>
          intro E hE hD
          have hxk : k ≠ x := fun e => hE (by rw [e]; exact List.mem_cons_self ..)
          have h3 := ihr (updN E x (max (E x) (E k + 1))) (fun e => hE (List.mem_cons_of_mem _ e)) (fun q hq => by
            unfold updN
            rw [if_neg (fun e : q = x => hE (List.mem_cons_of_mem _ (e ▸ hq)))]
            exact hD q (List.mem_cons_of_mem _ hq))
          rw [dpK]
          rcases h3 with h3 | ⟨q, hq, h3⟩
          · rw [h3]
            unfold updN
            rw [if_pos rfl]
            have := hD k (List.mem_cons_self ..)
            by_cases hm : E k + 1 ≤ E x
            · exact .inl (Nat.max_eq_left hm)
            · exact .inr ⟨k, List.mem_cons_self .., by rw [Nat.max_eq_right (by omega), this]⟩
          · exact .inr ⟨q, List.mem_cons_of_mem _ hq, h3⟩
      rcases key (nd x) D hbn (fun k _ => rfl) with h3 | ⟨k, hk, h3⟩
      · exact .inl (by rw [h3]; exact hb0)
      · exact .inr ⟨k, hk, by rw [h3, hot k (hn k hk)]⟩
theorem dpR_is {nd : Nm → List Nm} {c ns : List Nm} (h : Good nd c) (hs : ∀ x ∈ c, x ∈ ns) : ∀ r, ∀ x ∈ c, dpR nd ns r x ≤ dpO nd c (fun _ => 0) x ∧ min (dpO nd c (fun _ => 0) x) r ≤ dpR nd ns r x := by
  have hf := dp_fix h
  have hcl : ∀ n, n ∈ c → ∀ k ∈ nd n, k ∈ c ∧ dpO nd c (fun _ => 0) k + 1 ≤ dpO nd c (fun _ => 0) n := fun n hn k hk => by
    refine ⟨?_, (hf n hn).1 k hk⟩
    obtain ⟨i, hi, rfl⟩ := List.getElem_of_mem hn
    exact List.mem_of_mem_take (h.need i hi k hk)
  generalize dpO nd c (fun _ => 0) = H at *
  intro r
  induction r with
  | zero => intro x hx; exact ⟨Nat.zero_le _, by rw [Nat.min_zero]; exact Nat.zero_le _⟩
  | succ r ih =>
    intro x hx
    rw [dpR]
    refine ⟨dpO_top (S := (· ∈ c)) hcl ns _ (fun y hy => (ih y hy).1) x hx, ?_⟩
    rcases (hf x hx).2 with h0 | ⟨k, hk, h1⟩
    · rw [h0, Nat.zero_min]; exact Nat.zero_le _
    · have h2 := (ih k (hcl x hx k hk).1).2
      have h3 := dpO_ge hk ns (dpR nd ns r) (hs x hx)
      omega
theorem dpR_at {nd : Nm → List Nm} {c ns : List Nm} (h : Good nd c) (hs : ∀ x ∈ c, x ∈ ns) {r : Nat} (hr : c.length ≤ r) {x : Nm} (hx : x ∈ c) : dpR nd ns r x = dpO nd c (fun _ => 0) x := by
  obtain ⟨h1, h2⟩ := dpR_is h hs r x hx
  obtain ⟨i, hi, rfl⟩ := List.getElem_of_mem hx
  have := dp_at h i hi
  omega
def deA (ns : List Nm) (D : Nm → Nat) : List AV := ns.map fun n => .int .i64 (D n : Nat)
theorem de_len (ns : List Nm) (D : Nm → Nat) : (deA ns D).length = ns.length := by simp [deA]
theorem de_get {l : List Tg} {k : Nm} (h : k ∈ nmsG l) (D : Nm → Nat) : (deA (nmsG l) D)[atG l k]? = some (.int .i64 (D k : Nat)) := by
  have h1 := atG_lt h
  unfold deA
  rw [List.getElem?_map, List.getElem?_eq_getElem (by rw [nms_len]; exact h1), Option.map_some]
  have h2 := nmAt_at h
  rw [nmAt_get h1] at h2
  rw [nms_get h1, h2]
theorem de_set {l : List Tg} (hn : (nmsG l).Nodup) {k : Nm} (h : k ∈ nmsG l) (D : Nm → Nat) (v : Nat) : setRange (deA (nmsG l) D) (atG l k) [.int .i64 (v : Nat)] = deA (nmsG l) (updN D k v) := by
  have h1 := atG_lt h
  apply List.ext_getElem?
  intro j
  rw [setRange_get _ _ _ (by rw [de_len, nms_len]; exact h1)]
  simp only [List.length_cons, List.length_nil]
  by_cases hj : j = atG l k
  · subst hj
    rw [if_pos (by omega), de_get h]
    unfold updN
    rw [if_pos rfl]
    simp
  · rw [if_neg (by omega)]
    by_cases hj2 : j < l.length
    · unfold deA
      rw [List.getElem?_map, List.getElem?_map, List.getElem?_eq_getElem (by rw [nms_len]; exact hj2), Option.map_some, Option.map_some, nms_get hj2]
      unfold updN
      rw [if_neg]
      intro e
      exact hj (by rw [← e, ← nmAt_get hj2, atG_at hn hj2])
    · rw [List.getElem?_eq_none (by rw [de_len, nms_len]; omega), List.getElem?_eq_none (by rw [de_len, nms_len]; omega)]
theorem Deep_ok (st st' fl : Bool) (l : List Tg) (name : Nm) (hnm : name ∈ nmsG l) (hok : NmOk l) (hz : TgSz l) : Calc cx 26 [.sl st' fl 5 (tgs st l), .int .i64 (atG l name : Nat)] (.int .i64 (dpR (ndT l) (nmsG l) l.length name : Nat)) :=
  pure_intro (fun a w => Tryd.call26 a w) Tryd.func26 rfl Tryd.ntmps26 rfl .int fun B => by
    have hl60 := hok.len
    have hll := tgs_len st l
    have hT := fun name => TargetAt_ok st st' fl l name (by omega)
    have hrn := dpR_le hz.ndT (nmsG l)
    rw [nms_len] at hrn
    have hrep : repA l.length [AV.int .i64 0] = deA (nmsG l) (dpR (ndT l) (nmsG l) 0) := by
      unfold repA deA
      rw [show (dpR (ndT l) (nmsG l) 0) = fun _ => 0 from rfl, List.map_const', nms_len]
      simp
    have hil : ∀ (i : Nat), i < l.length → decide ((i : Int) < (((tgs st l).length : Nat) : Int)) = true := fun i h => decide_eq_true (by omega)
    have hex : ∀ (i : Nat), i = l.length → decide ((i : Int) < (((tgs st l).length : Nat) : Int)) = false := fun i h => decide_eq_false (by omega)
    have hget : ∀ (i : Nat) (h : i < l.length), (tgs st l)[(i : Int).toNat]? = some (tgA st l[i]) := fun i h => by rw [Int.toNat_natCast]; exact tgs_get h
    refine pa [] rfl ?_ ?_
    · (repeat' with_reducible apply AllP_cons) <;> try exact aC
      · show (8 : Int) * _ ≤ 281474976710656
        omega
    refine S_heap [(0, some (.cells (deA (nmsG l) (dpR (ndT l) (nmsG l) 0)) ⟨false, none⟩))] (by rw [← hrep, ← hll]; rfl) ?_
    refine S_while (α := Nat) (fun r => [(0, .sl st' fl 5 (tgs st l)), (1, .int .i64 (atG l name : Nat)), (5, .ms 0 0 0 (tgs st l).length 1 false), (6, .int .i64 (r : Nat))]) (fun r => [(0, some (.cells (deA (nmsG l) (dpR (ndT l) (nmsG l) r)) ⟨false, none⟩))]) (fun r => r ≤ l.length) (fun r => l.length - r) 0 (Nat.zero_le _) (.cons rfl (.cons rfl (.cons rfl (.cons rfl (.nil _))))) rfl ?_
    intro r hr
    have hr : r ≤ l.length := hr
    have hDr := hrn r
    by_cases hrl : r < l.length
    · have c1 := hil r hrl
      have hsucc : dpR (ndT l) (nmsG l) (r + 1) = dpO (ndT l) (nmsG l) (dpR (ndT l) (nmsG l) r) := rfl
      have hrb : r * (l.length * 1048576) ≤ 60 * (60 * 1048576) := Nat.mul_le_mul (by omega) (Nat.mul_le_mul hl60 (Nat.le_refl _))
      generalize dpR (ndT l) (nmsG l) r = D0 at *
      have hDb : ∀ k, D0 k ≤ 60 * (60 * 1048576) := fun k => by have := hDr k; omega
      refine pB [.b true] rfl ?_
      refine S_while (α := Nat) (fun i => [(0, .sl st' fl 5 (tgs st l)), (1, .int .i64 (atG l name : Nat)), (5, .ms 0 0 0 (tgs st l).length 1 false), (6, .int .i64 (r : Nat)), (7, .int .i64 (i : Nat))]) (fun i => [(0, some (.cells (deA (nmsG l) (dpO (ndT l) ((nmsG l).take i) D0)) ⟨false, none⟩))]) (fun i => i ≤ l.length) (fun i => l.length - i) 0 (Nat.zero_le _) (.cons rfl (.cons rfl (.cons rfl (.cons rfl (.cons rfl (.nil _)))))) rfl ?_
      intro i hi
      have hi : i ≤ l.length := hi
      by_cases hil2 : i < l.length
      · have c2 := hil i hil2
        have c3 := hget i hil2
        have hxm : l[i].name ∈ nmsG l := List.mem_map.2 ⟨_, List.getElem_mem hil2, rfl⟩
        have hati : atG l l[i].name = i := by rw [← nmAt_get hil2]; exact atG_at hok.nd hil2
        have htk : (nmsG l).take (i + 1) = (nmsG l).take i ++ [l[i].name] := by rw [List.take_succ_eq_append_getElem (by rw [nms_len]; exact hil2), nms_get hil2]
        have hnn : ndT l l[i].name = l[i].needs := by have := ndT_nm hok.nd hil2; rw [nmAt_get hil2] at this; exact this
        have hcln := hok.cl _ (List.getElem_mem hil2)
        have hnl := hz.nd _ (List.getElem_mem hil2)
        have hDi := dpO_le (ndT l) hz.ndT ((nmsG l).take i) D0 hDb
        have hsn := dpO_snoc (ndT l) l[i].name ((nmsG l).take i) D0
        rw [← htk, hnn] at hsn
        rw [List.length_take, nms_len, Nat.min_eq_left hi] at hDi
        generalize dpO (ndT l) ((nmsG l).take i) D0 = D1 at *
        have hDi2 : ∀ k, D1 k ≤ 61 * (60 * 1048576) := fun k => by have := hDi k; omega
        generalize l[i] = t at *
        have htl := texts_len t.needs
        refine pB [.b true] rfl ?_
        refine S_while (α := Nat) (fun j => [(0, .sl st' fl 5 (tgs st l)), (1, .int .i64 (atG l name : Nat)), (5, .ms 0 0 0 (tgs st l).length 1 false), (6, .int .i64 (r : Nat)), (7, .int .i64 (i : Nat)), (8, .int .i64 (j : Nat))]) (fun j => [(0, some (.cells (deA (nmsG l) (dpK t.name (t.needs.take j) D1)) ⟨false, none⟩))]) (fun j => j ≤ t.needs.length) (fun j => t.needs.length - j) 0 (Nat.zero_le _) (.cons rfl (.cons rfl (.cons rfl (.cons rfl (.cons rfl (.cons rfl (.nil _))))))) rfl ?_
        intro j hj
        have hj : j ≤ t.needs.length := hj
        by_cases hjl : j < t.needs.length
        · have d1 : decide ((j : Int) < (((texts t.needs).length : Nat) : Int)) = true := decide_eq_true (by omega)
          have d2 : (texts t.needs)[(j : Int).toNat]? = some (.str t.needs[j]) := by rw [Int.toNat_natCast]; exact texts_get hjl
          have hkm := hcln _ (List.getElem_mem hjl)
          have htk2 : t.needs.take (j + 1) = t.needs.take j ++ [t.needs[j]] := List.take_succ_eq_append_getElem hjl
          have hDj := dpK_le t.name (t.needs.take j) D1 hDi2
          generalize t.needs[j] = k at *
          have hsn2 := dpK_snoc t.name k (t.needs.take j) D1
          rw [← htk2] at hsn2
          rw [List.length_take, Nat.min_eq_left hj] at hDj
          generalize dpK t.name (t.needs.take j) D1 = D at *
          have hTk := hT k
          have htA : tAt l k = ((atG l k : Nat) : Int) := by unfold tAt; rw [if_pos hkm]
          rw [htA] at hTk
          have hat := atG_lt hkm
          have g1 := de_get hxm D
          have g2 := de_get hkm D
          rw [hati] at g1
          have hbk := hDj k
          have hbn := hDj t.name
          refine pa [.v (tgA st t), .b true, .v .top, .v (.int .i64 (D t.name : Nat)), .v (tgA st t), .v (.str k), .v (.int .i64 ((atG l k : Nat) : Int)), .v .top, .v (.int .i64 (D k : Nat)), .v .top] rfl ?_ ?_
          · (repeat' with_reducible apply AllP_cons) <;> try exact aC
            · show (List.drop (offN 0 (mulN ((i : Int)).toNat 1)) (deA (nmsG l) D))[0]? = _
              rw [offN_eq, mulN_eq, Int.toNat_natCast, List.getElem?_drop]
              have e : 0 + i * 1 + 0 = i := by omega
              rw [e]; exact g1
            · exact ⟨_, hTk, .cons (tgs_arg ..) (.cons (.refl .str) (.nil _))⟩
            · show (List.drop (offN 0 (mulN (((atG l k : Nat) : Int)).toNat 1)) (deA (nmsG l) D))[0]? = _
              rw [offN_eq, mulN_eq, Int.toNat_natCast, List.getElem?_drop]
              have e : 0 + atG l k * 1 + 0 = atG l k := by omega
              rw [e]; exact g2
            · show offN 0 (mulN ((i : Int)).toNat 1) + 1 ≤ _
              rw [offN_eq, mulN_eq, Int.toNat_natCast, de_len, nms_len]; omega
          refine S_round (j + 1) (by show t.needs.length - (j + 1) < t.needs.length - j; omega) hjl (.cons rfl (.cons rfl (.cons rfl (.cons rfl (.cons rfl (.cons (ai64 (by omega) (by omega)) (.nil _))))))) ?_
          show [(0, some (Box.cells (setRange (deA (nmsG l) D) (offN 0 (mulN ((i : Int)).toNat 1)) [.int .i64 (max (((D t.name : Nat) : Int)) (IntKind.i64.wrap (1 + ((D k : Nat) : Int))))]) ⟨false, none⟩))] = [(0, some (Box.cells (deA (nmsG l) (dpK t.name (t.needs.take (j + 1)) D1)) ⟨false, none⟩))]
          have e1 : offN 0 (mulN ((i : Int)).toNat 1) = atG l t.name := by rw [offN_eq, mulN_eq, Int.toNat_natCast, hati]; omega
          have e2 : max (((D t.name : Nat) : Int)) (IntKind.i64.wrap (1 + ((D k : Nat) : Int))) = ((max (D t.name) (D k + 1) : Nat) : Int) := by
            rw [w64 (k := D k + 1) (by omega) (by omega)]; omega
          rw [e1, e2, de_set hok.nd hxm, hsn2]
        · have hje : j = t.needs.length := by omega
          have d1 : decide ((j : Int) < (((texts t.needs).length : Nat) : Int)) = false := decide_eq_false (by omega)
          refine pB [.v (tgA st t), .b false] rfl ?_
          refine S_round (i + 1) (by show l.length - (i + 1) < l.length - i; omega) hil2 (.cons rfl (.cons rfl (.cons rfl (.cons rfl (.cons (ai64 (by omega) (by omega)) (.nil _)))))) ?_
          show [(0, some (Box.cells (deA (nmsG l) (dpK t.name (t.needs.take j) D1)) ⟨false, none⟩))] = [(0, some (Box.cells (deA (nmsG l) (dpO (ndT l) ((nmsG l).take (i + 1)) D0)) ⟨false, none⟩))]
          rw [hsn, hje, List.take_length]
      · have hie : i = l.length := by omega
        have c2 := hex i hie
        refine pB [.b false] rfl ?_
        refine S_round (r + 1) (by show l.length - (r + 1) < l.length - r; omega) hrl (.cons rfl (.cons rfl (.cons rfl (.cons (ai64 (by omega) (by omega)) (.nil _))))) ?_
        show [(0, some (Box.cells (deA (nmsG l) (dpO (ndT l) ((nmsG l).take i) D0)) ⟨false, none⟩))] = [(0, some (Box.cells (deA (nmsG l) (dpR (ndT l) (nmsG l) (r + 1))) ⟨false, none⟩))]
        rw [hsucc, hie, List.take_of_length_le (by rw [nms_len]; exact Nat.le_refl _)]
    · have hre : r = l.length := by omega
      have c1 := hex r hre
      subst hre
      have g := de_get hnm (dpR (ndT l) (nmsG l) l.length)
      have hat := atG_lt hnm
      refine pa [.b false, .v .top, .v (.int .i64 (dpR (ndT l) (nmsG l) l.length name : Nat))] rfl ?_ ?_
      · (repeat' with_reducible apply AllP_cons) <;> try exact aC
        · show (List.drop (offN 0 (mulN (((atG l name : Nat) : Int)).toNat 1)) (deA (nmsG l) _))[0]? = _
          rw [offN_eq, mulN_eq, Int.toNat_natCast, List.getElem?_drop]
          have e : 0 + atG l name * 1 + 0 = atG l name := by omega
          rw [e]; exact g
      exact S_retc .int rfl trivial rfl
theorem GraphDepths_ok (l : List Tg) (name : List UInt8) (hk : avB (.sl true false 5 (tgs true l)) ≤ 1048576) (hname : name.length ≤ 1048576) : Calc cx 6 [.sl true false 5 (tgs true l), .str name] (.bool true) :=
  pure_intro (fun a w => Tryd.call6 a w) Tryd.func6 rfl Tryd.ntmps6 rfl .bool fun B => by
    obtain ⟨hl, hz⟩ := tgSz_of hk
    have hO := Depth_ok true true false l name hl hz
    have hC := askedR_ok true true false l name hl hz
    have harg : ∀ σ : Heap, Frzs σ [.sl true false 5 (tgs true l), .str name] [.sl true false 5 (tgs true l), .str name] := fun σ => .cons (tgs_arg ..) (.cons (.refl .str) (.nil _))
    by_cases h : akE l name = 0
    · obtain ⟨hok, hnm⟩ := ak_ok h
      have hat := atG_lt hnm
      have htA : tAt l name = ((atG l name : Nat) : Int) := by unfold tAt; rw [if_pos hnm]
      have hI := InCone_ok true true false l (atG l name) hat hok hz
      have hH := HasCircle_ok true true false true false l (inG l (atG l name)) hok hz
      have hF := Deep_ok true true false l name hnm hok hz
      rw [h, htA] at hC
      have hoe := cE_is h
      have hdp : cE l name = 0 → dpR (ndT l) (nmsG l) l.length name = dpG l name := fun h0 => by
        obtain ⟨hg, hm⟩ := ordC_good h0
        have hs : ∀ x ∈ ordC l name, x ∈ nmsG l := fun x hx => by
          rcases (hm x).1 hx with rfl | hw
          · exact hnm
          · exact (way_pl hok hw hnm).1
        have h1 := List.Nodup.length_le_of_subset hg.nodup (l₂ := nmsG l) (fun x hx => hs x hx)
        rw [nms_len] at h1
        unfold dpG
        rw [if_pos h0]
        exact dpR_at hg hs h1 ((hm name).2 (.inl rfl))
      have hd0 : cE l name ≠ 0 → dpG l name = 0 := fun h0 => by unfold dpG; rw [if_neg h0]
      generalize inG l (atG l name) = P at *
      have hbo : ∀ σ : Heap, Frz false σ (.sl true false 1 (booA l.length P)) (.sl true false 1 (booA l.length P)) := fun σ => .refl (.sl (fun h => by cases h) (boo_free _ _))
      have hia : ∀ σ : Heap, Frzs σ [.sl true false 5 (tgs true l), .int .i64 ((atG l name : Nat) : Int)] [.sl true false 5 (tgs true l), .int .i64 ((atG l name : Nat) : Int)] := fun σ => .cons (tgs_arg ..) (.cons (.refl .int) (.nil _))
      have hpa : ∀ σ : Heap, Frzs σ [.sl true false 5 (tgs true l), .sl true false 1 (booA l.length P)] [.sl true false 5 (tgs true l), .sl true false 1 (booA l.length P)] := fun σ => .cons (tgs_arg ..) (.cons (hbo σ) (.nil _))
      cases hc : hcG l P with
      | true =>
        rw [hc] at hH hoe
        rw [if_pos rfl] at hoe
        rw [hoe, hd0 (by rw [hoe]; decide)] at hO
        refine pa [.v (.tup [.int .i64 ((0 : Nat) : Int), .int .i64 ((10 : Nat) : Int)]), .v (.tup [.int .i64 ((atG l name : Nat) : Int), .int .i64 0]), .b true, .v (.sl true false 1 (booA l.length P)), .v (.bool true), .b true, .v (.bool true), .b true, .b true] rfl ?_ ?_
        · (repeat' with_reducible apply AllP_cons) <;> try exact aC
          · exact ⟨_, hO, harg _⟩
          · exact ⟨_, hC, harg _⟩
          · exact ⟨_, hI, hia _⟩
          · exact ⟨_, hH, hpa _⟩
          · exact begun_ok
        exact S_retc .bool rfl trivial rfl
      | false =>
        rw [hc] at hH hoe
        rw [if_neg (by simp)] at hoe
        rw [hdp hoe] at hF
        rw [hoe] at hO
        have heq : ((((dpG l name : Nat) : Int)) == ((dpG l name : Nat) : Int)) = true := by simp
        refine pa [.v (.tup [.int .i64 (dpG l name : Nat), .int .i64 ((0 : Nat) : Int)]), .v (.tup [.int .i64 ((atG l name : Nat) : Int), .int .i64 0]), .b true, .v (.sl true false 1 (booA l.length P)), .v (.bool false), .b false, .v (.int .i64 (dpG l name : Nat)), .v (.bool true), .b true, .b true] rfl ?_ ?_
        · (repeat' with_reducible apply AllP_cons) <;> try exact aC
          · exact ⟨_, hO, harg _⟩
          · exact ⟨_, hC, harg _⟩
          · exact ⟨_, hI, hia _⟩
          · exact ⟨_, hH, hpa _⟩
          · exact ⟨_, hF, hia _⟩
          · exact begun_ok
        refine S_retc .bool rfl trivial ?_
        show AV.bool ((((dpG l name : Nat) : Int)) == ((dpG l name : Nat) : Int)) = _
        rw [heq]
    · have hoe := cE_ak h
      have hd0 : dpG l name = 0 := by unfold dpG; rw [if_neg (by rw [hoe]; exact h)]
      rw [hoe, hd0] at hO
      have hne : (((akE l name : Nat) : Int) == 0) = false := by simpa using h
      have hee : (((akE l name : Nat) : Int) == ((akE l name : Nat) : Int)) = true := by simp
      refine pa [.v (.tup [.int .i64 ((0 : Nat) : Int), .int .i64 (akE l name : Nat)]), .v (.tup [.int .i64 (tAt l name), .int .i64 (akE l name : Nat)]), .b false, .v (.bool true), .b true, .b true] rfl ?_ ?_
      · (repeat' with_reducible apply AllP_cons) <;> try exact aC
        · exact ⟨_, hO, harg _⟩
        · exact ⟨_, hC, harg _⟩
        · exact begun_ok
      exact S_retc .bool rfl trivial rfl
end Go.Proofs.YtnfalbdnkgaelaaDoor
end
section
set_option linter.unusedVariables false
set_option linter.unusedSimpArgs false
set_option maxRecDepth 20000
namespace Go.Proofs.YtnfalbdnkgaelaaDoor
open Go Go.Ab
theorem open_l {H : Type} {d : DataW H} {a : AV} (h : RdD Tryd.prog 23 d a) : ∃ l : List (List UInt8), a = .sl true false 1 (texts l) := by
  obtain ⟨ds, xs, rfl, hl, hm, hall, _⟩ := h.inv_sl Tryd.underlying23
  obtain ⟨ys, rfl, hy, hg⟩ := RdD.each AV.str (fun _ _ => True) hl hall (fun d x h => by
    obtain ⟨s, _, rfl, _⟩ := h.inv_str Tryd.underlying9
    exact ⟨s, rfl, trivial⟩)
  have hc : Tryd.prog.cellsOf 9 = 1 := by kernel_rfl
  exact ⟨ys, by rw [hc]; rfl⟩
end Go.Proofs.YtnfalbdnkgaelaaDoor
end
section
set_option linter.unusedVariables false
set_option linter.unusedSimpArgs false
set_option maxRecDepth 20000
namespace Go.Proofs.YtnfalbdnkgaelaaDoor
open Go Go.Ab
theorem open_tg {H : Type} {d : DataW H} {a : AV} (h : RdD Tryd.prog 44 d a) : ∃ f : Tg, a = tgA true f := by
  obtain ⟨ds, xs, rfl, rfl, hall⟩ := h.inv_st Tryd.underlying44
  obtain ⟨d0, ds, x0, xs, rfl, rfl, h0, hall⟩ := hall.cons
  obtain ⟨d1, ds, x1, xs, rfl, rfl, h1, hall⟩ := hall.cons
  obtain ⟨d2, ds, x2, xs, rfl, rfl, h2, hall⟩ := hall.cons
  obtain ⟨d3, ds, x3, xs, rfl, rfl, h3, hall⟩ := hall.cons
  obtain ⟨d4, ds, x4, xs, rfl, rfl, h4, hall⟩ := hall.cons
  obtain ⟨rfl, rfl⟩ := hall.nil
  obtain ⟨s0, rfl, rfl, _⟩ := h0.inv_str Tryd.underlying9
  obtain ⟨l1, rfl⟩ := open_l h1
  obtain ⟨l2, rfl⟩ := open_l h2
  obtain ⟨l3, rfl⟩ := open_l h3
  obtain ⟨l4, rfl⟩ := open_l h4
  exact ⟨⟨s0, l1, l2, l3, l4⟩, rfl⟩
theorem open_T {H : Type} {d : DataW H} {a : AV} (h : RdD Tryd.prog 22 d a) : ∃ l : List Tg, a = .sl true false 5 (tgs true l) := by
  obtain ⟨ds, xs, rfl, hl, hm, hall, _⟩ := h.inv_sl Tryd.underlying22
  obtain ⟨ys, rfl, hy, hg⟩ := RdD.each (tgA true) (fun _ _ => True) hl hall (fun d x h => by
    obtain ⟨f, rfl⟩ := open_tg h
    exact ⟨f, rfl, trivial⟩)
  have hc : Tryd.prog.cellsOf 44 = 5 := by kernel_rfl
  exact ⟨ys, by rw [hc]; rfl⟩
end Go.Proofs.YtnfalbdnkgaelaaDoor
end
