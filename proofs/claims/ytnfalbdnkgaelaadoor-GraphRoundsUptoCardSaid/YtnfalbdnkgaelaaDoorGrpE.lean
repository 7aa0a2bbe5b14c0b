/-
  Texts of our own, in one file.
-/
import Derived.Test.YtnfalbdnkgaelaaDoorGrpD
import Derived.WideShapes
section
set_option linter.unusedVariables false
set_option linter.unusedSimpArgs false
namespace Go.Ab
open Go Go.WideShapes
def laidB (P : Program) : List Field → Nat → Option Nat
  | [], o => some o
  | f :: r, o => match Nat.beq f.offset o with
    | true => laidB P r (o + P.cellsOf f.type)
    | false => none
mutual
def plainB (P : Program) : Nat → TypeId → Bool
  | 0, _ => false
  | n + 1, t => match P.underlying t with
    | some .bool => Nat.beq (P.cellsOf t) 1
    | some (.int _) => Nat.beq (P.cellsOf t) 1
    | some .string => Nat.beq (P.cellsOf t) 1
    | some (.slice e) => match Nat.beq (P.cellsOf t) 1, Nat.beq (P.cellsOf e) 0 with
      | true, false => plainB P n e
      | _, _ => false
    | some (.struct fs) => match laidB P fs.toList 0 with
      | some m => match Nat.beq (P.cellsOf t) m with
        | true => plainAll P n fs.toList
        | false => false
      | none => false
    | _ => false
def plainAll (P : Program) : Nat → List Field → Bool
  | 0, _ => false
  | n + 1, fs => match fs with
    | [] => true
    | f :: r => match plainB P n f.type with
      | true => plainAll P n r
      | false => false
end
inductive RdD (P : Program) {H : Type} : TypeId → DataW H → AV → Prop
  | bool {t b} (ht : P.underlying t = some .bool) : RdD P t (.lit (.bool b)) (.bool b)
  | int {t k n} (ht : P.underlying t = some (.int k)) (hw : (Lit.int k n).wf = true) : RdD P t (.lit (.int k n)) (.int k n)
  | str {t s} (ht : P.underlying t = some .string) (hs : s.length ≤ maxLen) : RdD P t (.lit (.string s)) (.str s)
  | nils {t e} (ht : P.underlying t = some (.slice e)) : RdD P t .nil (.sl true false (P.cellsOf e) [])
  | sl {t e} {ds rest : List (DataW H)} {xs : List AV} (ht : P.underlying t = some (.slice e)) (hl : xs.length = ds.length) (hm : xs.length ≤ maxLen) (h : ∀ i (h1 : i < ds.length) (h2 : i < xs.length), RdD P e ds[i] xs[i]) : RdD P t (.slice ds rest) (.sl true false (P.cellsOf e) xs)
  | st {t} {fs : Array Field} {ds : List (DataW H)} {xs : List AV} (ht : P.underlying t = some (.struct fs)) (hd : ds.length = fs.size) (hx : xs.length = fs.size) (h : ∀ i (h1 : i < ds.length) (h2 : i < xs.length) (h3 : i < fs.size), RdD P fs[i].type ds[i] xs[i]) : RdD P t (.agg ds) (.agg (xs.flatMap AV.cells))
def CellsV (w : World) (cs : List Value) (az : List AV) : Prop := cs.length = az.length ∧ ∀ i (h1 : i < cs.length) (h2 : i < az.length), VRel (Rl.old w) w cs[i] az[i]
theorem CellsV.one {w : World} {v : Value} {a : AV} (h : VRel (Rl.old w) w v a) : CellsV w [v] [a] := by
  refine ⟨rfl, fun i h1 h2 => ?_⟩
  obtain rfl : i = 0 := by simpa using h1
  exact h
theorem laidB_flat {P : Program} : ∀ (fs : List Field) (o m : Nat) (w : World) (cs : List Value) (xs : List AV), laidB P fs o = some m → xs.length = fs.length → (∀ i (h1 : i < fs.length) (h2 : i < xs.length), CellsV w ((cs.drop fs[i].offset).take (P.cellsOf fs[i].type)) xs[i].cells ∧ xs[i].cells.length = P.cellsOf fs[i].type) →
    cs.length = m → o ≤ m ∧ CellsV w (cs.drop o) (xs.flatMap AV.cells)
  | [], o, m, w, cs, xs, h, hl, hc, hm => by
    simp only [laidB, Option.some.injEq] at h
    obtain rfl : xs = [] := List.eq_nil_of_length_eq_zero hl
    subst h
    refine ⟨Nat.le_refl _, ?_⟩
    rw [List.drop_of_length_le (by omega)]
    exact ⟨rfl, fun i h => absurd h (by simp)⟩
  | f :: r, o, m, w, cs, xs, h, hl, hc, hm => by
    rw [laidB] at h
    split at h
    case h_2 => cases h
    rename_i hb
    have ho := Nat.eq_of_beq_eq_true hb
    obtain ⟨x, xs, rfl⟩ : ∃ x xs', xs = x :: xs' := by
      cases xs with
      | nil => simp at hl
      | cons x xs => exact ⟨x, xs, rfl⟩
    have h0 := hc 0 (by simp) (by simp)
    simp only [List.getElem_cons_zero] at h0
    obtain ⟨h1, h2⟩ := laidB_flat r (o + P.cellsOf f.type) m w cs xs h (by simpa using hl) (fun i k1 k2 => hc (i + 1) (Nat.succ_lt_succ k1) (Nat.succ_lt_succ k2)) hm
    refine ⟨by omega, ?_⟩
    obtain ⟨⟨e1, e2⟩, e3⟩ := h0
    rw [ho] at e1 e2
    rw [List.flatMap_cons]
    have hsplit : cs.drop o = (cs.drop o).take (P.cellsOf f.type) ++ cs.drop (o + P.cellsOf f.type) := by
      rw [← List.drop_drop, List.take_append_drop]
    rw [hsplit]
    refine ⟨by rw [List.length_append, List.length_append, e1, h2.1], fun i k1 k2 => ?_⟩
    by_cases hi : i < x.cells.length
    · rw [List.getElem_append_left (by omega), List.getElem_append_left hi]
      exact e2 i (by omega) hi
    · rw [List.getElem_append_right (by omega), List.getElem_append_right (by omega)]
      have : i - ((cs.drop o).take (P.cellsOf f.type)).length = i - x.cells.length := by omega
      simp only [this]
      exact h2.2 _ _ _
theorem read_cells {H : Type} {enc : TypeId × Value → H} {P : Program} {W : World} : ∀ (fuel n : Nat) (t : TypeId) (cs : List Value) (d : DataW H) (ps : List MemPlace), DataW.trod enc P W 0 (fun _ => true) true fuel t cs = some (d, ps) → plainB P n t = true →
    ∃ a, RdD P t d a ∧ a.cells.length = P.cellsOf t ∧ CellsV W cs a.cells ∧ (∀ v, (∃ xs, v = .agg xs ∧ xs.toList = cs ∧ aggT P t = some true) ∨ ([v] = cs ∧ aggT P t = some false) → VRel (Rl.old W) W v a) := by
  intro fuel
  induction fuel with
  | zero => intro n t cs d ps h _; simp [DataW.trod] at h
  | succ fuel ih =>
    intro n t cs d ps h hp
    have hall : ∀ (n : Nat) (fs : List Field), plainAll P n fs = true → ∀ i (hi : i < fs.length), ∃ m, plainB P m fs[i].type = true := by
      intro n
      induction n with
      | zero => intro fs h; simp [plainAll] at h
      | succ n ihn =>
        intro fs h i hi
        cases fs with
        | nil => simp at hi
        | cons f r =>
          rw [plainAll] at h
          split at h
          · rename_i hb
            cases i with
            | zero => exact ⟨n, hb⟩
            | succ i => exact ihn r h i (by simpa using hi)
          · cases h
    cases n with
    | zero => simp [plainB] at hp
    | succ n =>
      rw [plainB] at hp
      split at hp
      ·
        rename_i ht
        obtain ⟨b, rfl, hx⟩ := DataW.trod_bool ht h
        cases hx
        refine ⟨.bool b, .bool ht, (Nat.eq_of_beq_eq_true hp).symm, .one .bool, ?_⟩
        rintro v (⟨xs, rfl, h1, h2⟩ | ⟨h1, h2⟩)
        · simp [aggT, ht] at h2
        · cases h1; exact .bool
      · rename_i k ht
        obtain ⟨m, rfl, hx, hw⟩ := DataW.trod_int ht h
        cases hx
        refine ⟨.int _ m, .int ht hw, (Nat.eq_of_beq_eq_true hp).symm, .one .int, ?_⟩
        rintro v (⟨xs, rfl, h1, h2⟩ | ⟨h1, h2⟩)
        · simp [aggT, ht] at h2
        · cases h1; exact .int
      · rename_i ht
        obtain ⟨s, rfl, hx, hw⟩ := DataW.trod_string ht h
        cases hx
        refine ⟨.str s.data.toList, .str ht (by rw [Array.length_toList]; exact hw), (Nat.eq_of_beq_eq_true hp).symm, .one (.str rfl), ?_⟩
        rintro v (⟨xs, rfl, h1, h2⟩ | ⟨h1, h2⟩)
        · simp [aggT, ht] at h2
        · cases h1; exact .str rfl
      ·
        rename_i e ht
        split at hp
        case h_2 => cases hp
        rename_i hc1 hc0
        have hc1 := Nat.eq_of_beq_eq_true hc1
        have hpos : 0 < P.cellsOf e := by
          rcases Nat.eq_zero_or_pos (P.cellsOf e) with h0 | h0
          · rw [h0] at hc0; cases hc0
          · exact h0
        rcases DataW.trod_slice ht h with ⟨rfl, hx⟩ | ⟨a, len, cap, elems, rest, fu, hfu, rfl, hx, _, hl, hm, hlen, hel, hsp, hns⟩
        · cases hx
          refine ⟨_, .nils ht, hc1.symm, .one (.sl0 (fun h => by cases h)), ?_⟩
          rintro v (⟨xs, rfl, h1, h2⟩ | ⟨h1, h2⟩)
          · simp [aggT, ht] at h2
          · cases h1; exact .sl0 (fun h => by cases h)
        · cases hx
          obtain rfl : fuel = fu := by omega
          have each : ∀ i (hi : i < elems.length), ∃ x, RdD P e (elems[i]).1 x ∧ x.cells.length = P.cellsOf e ∧ ∃ ecs : List Value, W.cells? 0 (a.add (i * P.cellsOf e)) (P.cellsOf e) = some ecs ∧ CellsV W ecs x.cells := by
            intro i hi
            have h1 := hel i (by omega)
            rw [List.getElem?_eq_getElem hi, Option.bind_eq_some_iff] at h1
            obtain ⟨ecs, h2, h3⟩ := h1
            obtain ⟨x, k1, k2, k3, _⟩ := ih n e ecs (elems[i]).1 (elems[i]).2 h3 hp
            exact ⟨x, k1, k2, ecs, h2, k3⟩
          have : ∃ xs : List AV, xs.length = elems.length ∧ ∀ i (hi : i < elems.length) (hx : i < xs.length), RdD P e (elems[i]).1 xs[i] ∧ xs[i].cells.length = P.cellsOf e ∧ ∃ ecs : List Value, W.cells? 0 (a.add (i * P.cellsOf e)) (P.cellsOf e) = some ecs ∧ CellsV W ecs xs[i].cells := by
            refine ⟨(List.finRange elems.length).map fun i => Classical.choose (each i.1 i.2), by simp, fun i hi hx => ?_⟩
            simp only [List.getElem_map, List.getElem_finRange]
            exact Classical.choose_spec (each i hi)
          obtain ⟨xs, hxl, hxs⟩ := this
          have hv : VRel (Rl.old W) W (.slice (some a) len cap) (.sl true false (P.cellsOf e) xs) := by
            rcases Nat.eq_zero_or_pos len with h0 | h0
            · subst h0
              obtain rfl : xs = [] := List.eq_nil_of_length_eq_zero (by omega)
              exact .sl0 (fun h => by cases h)
            · obtain ⟨b, o, sp⟩ := a
              obtain ⟨_, _, ecs0, hc, _⟩ := hxs 0 (by omega) (by omega)
              obtain ⟨_, hcl, hcc⟩ := World.cells?_some hc
              have hcell0 := hcc 0 hpos
              rw [List.getElem?_eq_getElem (by omega)] at hcell0
              have hsp : sp = none := by
                cases sp with
                | none => rfl
                | some s =>
                  simp [Addr.add, World.cell?] at hcell0
                  split at hcell0 <;> cases hcell0
              subst hsp
              have hb : b < W.heap.size := by
                rw [Addr.add_lit] at hcell0
                rcases Nat.lt_or_ge b W.heap.size with h | h
                · exact h
                · simp [World.cell?, Addr.add, Array.getElem?_eq_none h] at hcell0
              have hcel : ∀ i, i < xs.length → ∀ j, j < P.cellsOf e → ∃ v, W.cell? ⟨b, o + i * P.cellsOf e + j, none⟩ = some v ∧ ∀ (hi : i < xs.length) (hj : j < (AV.cells xs[i]).length), VRel (Rl.old W) W v (AV.cells xs[i])[j] := by
                intro i hi j hj
                obtain ⟨_, hxc, ecs, hc, hcv⟩ := hxs i (by omega) hi
                obtain ⟨_, hcl, hcc⟩ := World.cells?_some hc
                have h1 := hcc j hj
                rw [List.getElem?_eq_getElem (by omega)] at h1
                rw [Addr.add_lit, Addr.add_lit] at h1
                refine ⟨ecs[j], h1, fun _ hj' => hcv.2 j _ hj'⟩
              refine .sl (by omega) hl (fun h => by cases h) hb (fun _ => hb) (fun x hx => ?_) (fun i j => (W.cell? ⟨b, o + i * P.cellsOf e + j, none⟩).getD undef) (fun i hi j hj => ?_) (fun i hi j hj => ?_)
              · obtain ⟨i, hi, rfl⟩ := List.getElem_of_mem hx
                exact (hxs i (by omega) hi).2.1
              · obtain ⟨v, h1, _⟩ := hcel i hi j hj
                rw [h1]; rfl
              · obtain ⟨v, h1, h2⟩ := hcel i hi j (by rw [(hxs i (by omega) hi).2.1] at hj; exact hj)
                rw [h1]
                exact h2 hi hj
          refine ⟨.sl true false (P.cellsOf e) xs, .sl ht (by simp [hxl]) (by omega) (fun i h1 h2 => by simpa using (hxs i (by simpa using h1) h2).1), hc1.symm, .one hv, ?_⟩
          rintro v (⟨ys, rfl, h1, h2⟩ | ⟨h1, h2⟩)
          · simp [aggT, ht] at h2
          · cases h1; exact hv
      ·
        rename_i fs ht
        split at hp
        case h_2 => cases hp
        rename_i m hm
        split at hp
        case h_2 => cases hp
        rename_i hcm
        have hcm := Nat.eq_of_beq_eq_true hcm
        obtain ⟨ys, fu, hfu, hx, hl, hyl, hy⟩ := DataW.trod_struct ht h
        obtain rfl : fuel = fu := by omega
        cases hx
        have each : ∀ i (hi : i < fs.toList.length) (hi' : i < ys.length), ∃ x, RdD P (fs.toList[i]).type (ys[i]).1 x ∧ x.cells.length = P.cellsOf (fs.toList[i]).type ∧ CellsV W ((cs.drop (fs.toList[i]).offset).take (P.cellsOf (fs.toList[i]).type)) x.cells := by
          intro i hi hi'
          have h1 := hy i (fs.toList[i]) (by simp at hi; simp [hi])
          rw [List.getElem?_eq_getElem hi'] at h1
          obtain ⟨k, hk⟩ := hall n fs.toList hp i hi
          obtain ⟨x, k1, k2, k3, _⟩ := ih k _ _ (ys[i]).1 (ys[i]).2 h1 hk
          exact ⟨x, k1, k2, k3⟩
        have hfl : fs.toList.length = ys.length := by simp [hyl]
        have : ∃ xs : List AV, xs.length = fs.toList.length ∧ ∀ i (hi : i < fs.toList.length) (hi' : i < ys.length) (hx : i < xs.length), RdD P (fs.toList[i]).type (ys[i]).1 xs[i] ∧ xs[i].cells.length = P.cellsOf (fs.toList[i]).type ∧ CellsV W ((cs.drop (fs.toList[i]).offset).take (P.cellsOf (fs.toList[i]).type)) xs[i].cells := by
          refine ⟨(List.finRange fs.toList.length).map fun i => Classical.choose (each i.1 i.2 (by omega)), by simp, fun i hi hi' hx => ?_⟩
          simp only [List.getElem_map, List.getElem_finRange]
          exact Classical.choose_spec (each i hi hi')
        obtain ⟨xs, hxl, hxs⟩ := this
        obtain ⟨_, hcv⟩ := laidB_flat fs.toList 0 m W cs xs hm hxl (fun i h1 h2 => ⟨(hxs i h1 (by omega) h2).2.2, (hxs i h1 (by omega) h2).2.1⟩) (by omega)
        rw [List.drop_zero] at hcv
        refine ⟨.agg (xs.flatMap AV.cells), .st ht (by simp [hyl]) (by simpa using hxl) (fun i h1 h2 h3 => by
          have := (hxs i (by simpa using h3) (by simpa using h1) h2).1
          simp only [Array.getElem_toList, List.getElem_map] at this ⊢
          exact this), by show (xs.flatMap AV.cells).length = _; rw [← hcv.1]; omega, hcv, ?_⟩
        rintro v (⟨zs, rfl, h1, h2⟩ | ⟨h1, h2⟩)
        · refine .agg (by rw [← hcv.1, ← h1]; simp) (fun i hi => ?_)
          have h3 : i < cs.length := by rw [hcv.1]; exact hi
          have := hcv.2 i h3 hi
          subst h1
          rw [Array.getD_eq_getD_getElem?, Array.getElem?_eq_getElem (by simpa using h3)]
          simpa using this
        · simp [aggT, ht] at h2
      · cases hp
theorem read_plain {H : Type} {enc : TypeId × Value → H} {P : Program} {W : World} {r : Reach} {base : Nat} {n : Nat} {t : TypeId} {v : Value} {d : DataW H} {ps : List MemPlace} (hp : plainB P n t = true) (hv : Value.okWide P W r base t v)
    (h : DataW.Trod enc P W 0 (fun _ => true) true t v d ps) : ∃ a, VRel (Rl.old W) W v a ∧ RdD P t d a := by
  obtain ⟨fuel, hf⟩ := h
  obtain ⟨a, h1, _, _, h2⟩ := read_cells fuel n t _ d ps hf hp
  refine ⟨a, h2 v ?_, h1⟩
  cases n with
  | zero => simp [plainB] at hp
  | succ n =>
    rw [plainB] at hp
    split at hp
    · rename_i ht
      obtain ⟨b, rfl⟩ := okWide_bool ht hv
      exact .inr ⟨rfl, by simp [aggT, ht]⟩
    · rename_i k ht
      obtain ⟨b, rfl⟩ := okWide_int ht hv
      exact .inr ⟨rfl, by simp [aggT, ht]⟩
    · rename_i ht
      obtain ⟨b, rfl⟩ := okWide_string ht hv
      exact .inr ⟨rfl, by simp [aggT, ht]⟩
    · rename_i e ht
      obtain ⟨a, len, cap, rfl⟩ := okWide_slice ht hv
      exact .inr ⟨rfl, by simp [aggT, ht]⟩
    · rename_i fs ht
      obtain ⟨cs, rfl, _⟩ := okWide_struct ht hv
      exact .inl ⟨cs, rfl, rfl, by simp [aggT, ht]⟩
    · cases hp
def RdDAll (P : Program) {H : Type} : List Field → List (DataW H) → List AV → Prop
  | [], [], [] => True
  | f :: fs, d :: ds, x :: xs => RdD P f.type d x ∧ RdDAll P fs ds xs
  | _, _, _ => False
theorem RdDAll.of {P : Program} {H : Type} : ∀ {fs : List Field} {ds : List (DataW H)} {xs : List AV}, ds.length = fs.length → xs.length = fs.length → (∀ i (h1 : i < ds.length) (h2 : i < xs.length) (h3 : i < fs.length), RdD P fs[i].type ds[i] xs[i]) → RdDAll P fs ds xs
  | [], ds, xs, h1, h2, _ => by
    obtain rfl : ds = [] := List.eq_nil_of_length_eq_zero h1
    obtain rfl : xs = [] := List.eq_nil_of_length_eq_zero h2
    trivial
  | f :: fs, ds, xs, h1, h2, h => by
    cases ds with
    | nil => simp at h1
    | cons d ds =>
      cases xs with
      | nil => simp at h2
      | cons x xs =>
        exact ⟨h 0 (by simp) (by simp) (by simp), RdDAll.of (by simpa using h1) (by simpa using h2) (fun i k1 k2 k3 => h (i + 1) (Nat.succ_lt_succ k1) (Nat.succ_lt_succ k2) (Nat.succ_lt_succ k3))⟩
theorem RdDAll.cons {P : Program} {H : Type} {f : Field} {fs : List Field} {ds : List (DataW H)} {xs : List AV} (h : RdDAll P (f :: fs) ds xs) : ∃ d ds' x xs', ds = d :: ds' ∧ xs = x :: xs' ∧ RdD P f.type d x ∧ RdDAll P fs ds' xs' := by
  match ds, xs, h with
  | d :: ds', x :: xs', ⟨h1, h2⟩ => exact ⟨d, ds', x, xs', rfl, rfl, h1, h2⟩
theorem RdDAll.nil {P : Program} {H : Type} {ds : List (DataW H)} {xs : List AV} (h : RdDAll P [] ds xs) : ds = [] ∧ xs = [] := by
  match ds, xs, h with
  | [], [], _ => exact ⟨rfl, rfl⟩
section
variable {P : Program} {H : Type} {t : TypeId} {d : DataW H} {a : AV}
theorem RdD.inv_st {fs : Array Field} (h : RdD P t d a) (ht : P.underlying t = some (.struct fs)) : ∃ ds xs, d = .agg ds ∧ a = .agg (xs.flatMap AV.cells) ∧ RdDAll P fs.toList ds xs := by
  cases h with
  | st ht' hd hx h =>
    rw [ht] at ht'
    cases ht'
    exact ⟨_, _, rfl, rfl, .of (by simpa using hd) (by simpa using hx) (fun i h1 h2 h3 => by simpa using h i h1 h2 (by simpa using h3))⟩
  | bool ht' => rw [ht] at ht'; cases ht'
  | str ht' => rw [ht] at ht'; cases ht'
  | int ht' => rw [ht] at ht'; cases ht'
  | nils ht' => rw [ht] at ht'; cases ht'
  | sl ht' => rw [ht] at ht'; cases ht'
theorem RdD.inv_str (h : RdD P t d a) (ht : P.underlying t = some .string) : ∃ s, d = .lit (.string s) ∧ a = .str s ∧ s.length ≤ maxLen := by
  cases h with
  | str ht' hs => exact ⟨_, rfl, rfl, hs⟩
  | bool ht' => rw [ht] at ht'; cases ht'
  | int ht' => rw [ht] at ht'; cases ht'
  | nils ht' => rw [ht] at ht'; cases ht'
  | sl ht' => rw [ht] at ht'; cases ht'
  | st ht' => rw [ht] at ht'; cases ht'
theorem RdD.inv_sl {e : TypeId} (h : RdD P t d a) (ht : P.underlying t = some (.slice e)) :
    ∃ (ds : List (DataW H)) (xs : List AV), a = .sl true false (P.cellsOf e) xs ∧ xs.length = ds.length ∧ xs.length ≤ maxLen ∧ (∀ i (h1 : i < ds.length) (h2 : i < xs.length), RdD P e ds[i] xs[i]) ∧ ((d = .nil ∧ ds = []) ∨ ∃ rest, d = .slice ds rest) := by
  cases h with
  | nils ht' => rw [ht] at ht'; cases ht'; exact ⟨[], [], rfl, rfl, Nat.zero_le _, fun i h => absurd h (by simp), .inl ⟨rfl, rfl⟩⟩
  | sl ht' hl hm h => rw [ht] at ht'; cases ht'; exact ⟨_, _, rfl, hl, hm, h, .inr ⟨_, rfl⟩⟩
  | bool ht' => rw [ht] at ht'; cases ht'
  | int ht' => rw [ht] at ht'; cases ht'
  | str ht' => rw [ht] at ht'; cases ht'
  | st ht' => rw [ht] at ht'; cases ht'
theorem RdD.each {α : Type} {e : TypeId} (f : α → AV) (g : α → DataW H → Prop) {ds : List (DataW H)} {xs : List AV} (hl : xs.length = ds.length) (h : ∀ i (h1 : i < ds.length) (h2 : i < xs.length), RdD P e ds[i] xs[i])
    (hf : ∀ d x, RdD P e d x → ∃ y, x = f y ∧ g y d) : ∃ ys : List α, xs = ys.map f ∧ ys.length = ds.length ∧ ∀ i (h1 : i < ds.length) (h2 : i < ys.length), g ys[i] ds[i] := by
  induction xs generalizing ds with
  | nil =>
    obtain rfl : ds = [] := List.eq_nil_of_length_eq_zero (by simpa using hl.symm)
    exact ⟨[], rfl, rfl, fun i h => absurd h (by simp)⟩
  | cons x xs ih =>
    cases ds with
    | nil => simp at hl
    | cons d ds =>
      obtain ⟨y, hy, hg⟩ := hf d x (h 0 (by simp) (by simp))
      obtain ⟨ys, h1, h2, h3⟩ := ih (ds := ds) (by simpa using hl) (fun i k1 k2 => h (i + 1) (Nat.succ_lt_succ k1) (Nat.succ_lt_succ k2))
      refine ⟨y :: ys, by rw [hy, h1]; rfl, by simp [h2], fun i k1 k2 => ?_⟩
      cases i with
      | zero => exact hg
      | succ i => exact h3 i (Nat.lt_of_succ_lt_succ k1) (Nat.lt_of_succ_lt_succ k2)
end
end Go.Ab
end
section
set_option linter.unusedVariables false
set_option linter.unusedSimpArgs false
namespace Go.Ab
open Go Go.WideShapes
mutual
def avB : AV → Nat
  | .str s => s.length
  | .sl _ _ _ xs => avS xs
  | .agg cs => avC cs
  | _ => 0
def avS : List AV → Nat
  | [] => 0
  | x :: r => avB x + 1 + avS r
def avC : List AV → Nat
  | [] => 0
  | x :: r => avB x + avC r
end
theorem avC_append (a b : List AV) : avC (a ++ b) = avC a + avC b := by
  induction a with
  | nil => simp [avC]
  | cons x a ih => simp only [List.cons_append, avC, ih]; omega
theorem avC_cells (x : AV) : avC x.cells ≤ avB x := by
  cases x <;> simp [AV.cells, avC, avB]
theorem avC_flat (xs : List AV) : avC (xs.flatMap AV.cells) ≤ avC xs := by
  induction xs with
  | nil => simp
  | cons x xs ih =>
    have := avC_cells x
    simp only [List.flatMap_cons, avC_append, avC]; omega
theorem avC_le_avS (xs : List AV) : avC xs ≤ avS xs := by
  induction xs with
  | nil => simp [avC, avS]
  | cons x xs ih => simp only [avC, avS]; omega
theorem avS_mem {x : AV} : ∀ {xs : List AV}, x ∈ xs → avB x + 1 ≤ avS xs
  | y :: ys, h => by
    rcases List.mem_cons.1 h with rfl | h
    · simp only [avS]; omega
    · have := avS_mem h; simp only [avS]; omega
theorem bulk_all {P : Program} {H : Type} {B : DataW H → Nat} {BA : List (DataW H) → Nat} (hn : BA [] = 0) (hc : ∀ d r, BA (d :: r) = B d + BA r) : ∀ {ds : List (DataW H)} {xs : List AV}, xs.length = ds.length →
    (∀ i (h1 : i < ds.length) (h2 : i < xs.length), avB xs[i] + 1 ≤ B ds[i]) → avS xs ≤ BA ds
  | [], xs, hl, h => by
    obtain rfl : xs = [] := List.eq_nil_of_length_eq_zero (by simpa using hl)
    simp [avS]
  | d :: ds, xs, hl, h => by
    cases xs with
    | nil => simp at hl
    | cons x xs =>
      have h0 := h 0 (by simp) (by simp)
      have := bulk_all (P := P) (B := B) hn hc (ds := ds) (xs := xs) (by simpa using hl) (fun i h1 h2 => h (i + 1) (Nat.succ_lt_succ h1) (Nat.succ_lt_succ h2))
      simp only [avS, hc]
      simp only [List.getElem_cons_zero] at h0
      omega
theorem RdD.bulk {P : Program} {H : Type} {B : DataW H → Nat} {BA : List (DataW H) → Nat} (hn : BA [] = 0) (hc : ∀ d r, BA (d :: r) = B d + BA r) (h1 : ∀ d, 1 ≤ B d) (hs : ∀ s, B (.lit (.string s)) = s.length + 1)
    (hsl : ∀ a b, B (.slice a b) = BA a + BA b + 1) (hag : ∀ a, B (.agg a) = BA a + 1) {t : TypeId} {d : DataW H} {a : AV} (h : RdD P t d a) : avB a + 1 ≤ B d := by
  induction h with
  | bool => simpa [avB] using h1 _
  | int => simpa [avB] using h1 _
  | str => simp [avB, hs]
  | nils => simpa [avB, avS] using h1 _
  | sl ht hl hm h ih =>
    have := bulk_all (P := P) (B := B) hn hc hl ih
    rw [hsl]; simp only [avB]; omega
  | st ht hd hx h ih =>
    have := bulk_all (P := P) (B := B) hn hc (by omega) (fun i a b => ih i a b (by omega))
    rw [hag]; simp only [avB]
    rename_i t fs ds xs
    have k1 := avC_flat xs
    have k2 := avC_le_avS xs
    omega
end Go.Ab
end
section
set_option linter.unusedVariables false
set_option linter.unusedSimpArgs false
set_option maxRecDepth 20000
set_option maxHeartbeats 1000000
namespace Go.Proofs.YtnfalbdnkgaelaaDoor
open Go Go.Ab
theorem text_avB {x : List (List UInt8)} : ∀ s ∈ x, s.length ≤ avS (texts x) := fun s hs => by
  have : avB (.str s) + 1 ≤ avS (texts x) := avS_mem (by simp [texts, hs])
  simp only [avB] at this; omega
theorem len_avS : ∀ (xs : List AV), xs.length ≤ avS xs
  | [] => Nat.zero_le _
  | x :: r => by have := len_avS r; simp only [avS, List.length_cons]; omega
theorem tg_of {l : List Tg} {k : Nat} (h : avB (.sl true false 5 (tgs true l)) ≤ k) : l.length ≤ k ∧ ∀ t ∈ l, t.name.length ≤ k ∧ t.needs.length ≤ k ∧ t.outs.length ≤ k ∧ t.srcs.length ≤ k ∧ t.cmd.length ≤ k ∧ (∀ s ∈ t.srcs, s.length ≤ k) ∧ (∀ s ∈ t.outs, s.length ≤ k) := by
  have h : avS (tgs true l) ≤ k := h
  refine ⟨by have := len_avS (tgs true l); rw [tgs_len] at this; omega, fun t ht => ?_⟩
  have h1 : avB (tgA true t) + 1 ≤ avS (tgs true l) := avS_mem (List.mem_map_of_mem ht)
  have h2 : avB (AV.agg [.str t.name, .sl true false 1 (texts t.srcs), .sl true false 1 (texts t.needs), .sl true false 1 (texts t.outs), .sl true false 1 (texts t.cmd)]) + 1 ≤ avS (tgs true l) := h1
  simp only [avB, avC] at h2
  have e1 := len_avS (texts t.srcs)
  have e2 := len_avS (texts t.needs)
  have e3 := len_avS (texts t.outs)
  have e4 := len_avS (texts t.cmd)
  rw [texts_len] at e1 e2 e3 e4
  refine ⟨by omega, by omega, by omega, by omega, by omega, fun s hs => ?_, fun s hs => ?_⟩
  · have := text_avB s hs; omega
  · have := text_avB s hs; omega
theorem tgSz_of {l : List Tg} (h : avB (.sl true false 5 (tgs true l)) ≤ 1048576) : l.length ≤ 1000000000 ∧ TgSz l := by
  obtain ⟨h1, h2⟩ := tg_of h
  exact ⟨by omega, fun t ht => by have := (h2 t ht).1; omega, fun t ht => (h2 t ht).2.1⟩
theorem ord_full {l : List Tg} (hok : NmOk l) (P : Nat → Bool) (hcl : ∀ n ∈ smG l P l.length, ∀ k ∈ ndT l n, k ∈ smG l P l.length) : (ordG (ndT l) (smG l P l.length) (smG l P l.length).length []).length = (smG l P l.length).length ↔ hcG l P = false := by
  obtain ⟨g1, g2, g3⟩ := ord_good (needs := ndT l) (sm := smG l P l.length) (smG l P l.length).length [] .nil (fun n hn => by cases hn) (by simp)
  have h1 := ord_all hcl
  have h2 : (∀ c ∈ smG l P l.length, ¬ Way (NeedR (ndT l)) c c) ↔ hcG l P = false := by
    rw [hcG, List.any_eq_false]
    constructor
    · intro h i hi hh
      obtain ⟨p1, p2⟩ := Bool.and_eq_true_iff.1 hh
      have hi := List.mem_range.1 hi
      exact h (nmAt l i) (smG_mem.2 ⟨i, hi, p1, rfl⟩) ((rch_nm hok hi hi).1 p2)
    · intro h c hc hw
      obtain ⟨i, hi, p1, rfl⟩ := smG_mem.1 hc
      exact h i (List.mem_range.2 hi) (by rw [p1, (rch_nm hok hi hi).2 hw]; rfl)
  rw [← h2, ← h1]
  generalize ordG (ndT l) (smG l P l.length) (smG l P l.length).length [] = od at *
  constructor
  · intro hlen n hn
    refine Classical.byContradiction fun hno => ?_
    have := List.Nodup.length_le_of_subset (List.nodup_cons.2 ⟨hno, g1.nodup⟩) (l₂ := smG l P l.length) (fun x hx => by
      rcases List.mem_cons.1 hx with rfl | hx
      · exact hn
      · exact g2 x hx)
    rw [List.length_cons] at this; omega
  · intro hall
    have h3 := List.Nodup.length_le_of_subset g1.nodup (l₂ := smG l P l.length) g2
    have h4 := List.Nodup.length_le_of_subset (smG_nodup hok.nd P) (l₂ := od) hall
    omega
theorem sm_all (l : List Tg) : smG l (fun _ => true) l.length = nmsG l := by
  unfold smG
  rw [List.filter_eq_self.2 (fun _ _ => rfl)]
  refine List.ext_getElem (by simp [nms_len]) fun i h1 h2 => ?_
  have hi : i < l.length := by simpa using h1
  rw [List.getElem_map, List.getElem_range, nmAt_get hi, nms_get hi]
theorem oE_is {l : List Tg} (h : nmE l = 0) : oE l = if hcG l (fun _ => true) = true then 10 else 0 := by
  have hok := nmE_ok.1 h
  have := ord_full hok (fun _ => true) (by rw [sm_all]; exact hok.ndT)
  rw [sm_all] at this
  unfold oE ordL
  rw [if_pos h]
  rw [nms_len] at this
  cases hc : hcG l (fun _ => true) with
  | true =>
    rw [hc] at this
    rw [nms_len, if_neg (fun e => by cases this.1 e), if_pos rfl]
  | false =>
    rw [nms_len, if_pos (this.2 hc), if_neg (by simp)]
theorem begun_ok {σ : Heap} : ∃ args', Calc cx 17 args' (.bool true) ∧ Frzs σ [] args' := ⟨[], graphBegun_ok, .nil _⟩
end Go.Proofs.YtnfalbdnkgaelaaDoor
end
section
set_option linter.unusedVariables false
set_option linter.unusedSimpArgs false
set_option maxRecDepth 20000
set_option maxHeartbeats 1000000
namespace Go.Proofs.YtnfalbdnkgaelaaDoor
open Go Go.Ab
theorem Good.need {nd : Nm → List Nm} {c : List Nm} (h : Good nd c) : ∀ i (hi : i < c.length), ∀ k ∈ nd c[i], k ∈ c.take i := by
  induction h with
  | nil => intro i hi; cases hi
  | @snoc p b h hb hn ih =>
    intro i hi k hk
    rw [List.length_append] at hi
    by_cases h1 : i < p.length
    · rw [List.getElem_append_left h1] at hk
      rw [List.take_append_of_le_length (Nat.le_of_lt h1)]
      exact ih i h1 k hk
    · have hi : i < p.length + 1 := hi
      have e : i = p.length := by omega
      subst e
      rw [List.getElem_append_right (Nat.le_refl _)] at hk
      simp only [Nat.sub_self, List.getElem_cons_zero] at hk
      rw [List.take_append_of_le_length (Nat.le_refl _), List.take_length]
      exact hn k hk
theorem Good.pre {nd : Nm → List Nm} {c : List Nm} (h : Good nd c) : ∀ i, Good nd (c.take i) := by
  induction h with
  | nil => intro i; rw [List.take_nil]; exact .nil
  | @snoc p b h hb hn ih =>
    intro i
    by_cases h1 : i ≤ p.length
    · rw [List.take_append_of_le_length h1]; exact ih i
    · rw [List.take_of_length_le (by rw [List.length_append]; show p.length + 1 ≤ i; omega)]
      exact .snoc h hb hn
section
variable {l : List Tg} {a : Nm} (h0 : cE l a = 0)
include h0
end
end Go.Proofs.YtnfalbdnkgaelaaDoor
end
section
set_option linter.unusedVariables false
set_option linter.unusedSimpArgs false
namespace Go.Ab
open Go
section
variable {cx : Cx} {n : Nat} {B : Bs} {k : List AI} {Q : Post} {fr : Fr} {σ : Heap}
theorem S_doB {all : Array Oper} {o : Oper} {l : List Oper} {K : List Nat} (I : Bool → Prop) (hg : guardA all o K fr = some true) (hd : dstOk n o.dst = true)
    (h : ∀ r a w, Inv cx r σ w → FRel r w n fr a → ∃ b, I b ∧ OpRes cx r σ w ((execOp a.eval o).run cx.P w) (.bool b) σ) (hk : ∀ b, I b → S cx n B (.ops all l K :: k) Q (setA o.dst (.bool b) fr) σ) : S cx n B (.ops all (o :: l) K :: k) Q fr σ := by
  intro r a w hi hf hdf hx
  have hw := guardA_wanted (cx := cx) hf hg
  obtain ⟨b, hI, r', w', v', hrun, hv, hi', hx'⟩ := h r a w hi hf
  unfold wpList
  rw [if_pos hw]
  refine .inl ?_
  unfold Oper.wp
  have hf' : FRel r' w' n (setA o.dst (.bool b) fr) (a.put o.dst v') := (hf.mono (hx'.grow hi)).setA hd hv
  have hgo := hk b hI r' (a.put o.dst v') w' hi' hf' (hdf.put _ _) (hx.trans hx')
  rcases hrun with hrun | ⟨hrun, hu⟩
  · rw [hrun]; exact hgo
  · rw [hrun]; subst hu; exact hgo
def nilB (neg : Bool) (xs : List AV) (b : Bool) : Prop := xs ≠ [] → b = neg
theorem nil_run {o : Oper} {t e t' : TypeId} {x y : Operand} {st fl neg : Bool} {sz : Nat} {xs : List AV} (ho : o.op = .binOp (if neg then .neq else .eql) t x y t') (hu : cx.P.underlying t = some (.slice e)) (hx : ev cx fr x = .sl st fl sz xs) (hy : ev cx fr y = .nils)
    (r : Rl) (ac : Act) (w : World) (hi : Inv cx r σ w) (hf : FRel r w n fr ac) : ∃ b, nilB neg xs b ∧ OpRes cx r σ w ((execOp ac.eval o).run cx.P w) (.bool b) σ := by
  have h1 := ev_rel hi hf x
  have h2 := ev_rel hi hf y
  rw [hx] at h1
  rw [hy] at h2
  obtain ⟨dst, op, ty, pos, after, guard⟩ := o
  simp only at ho
  subst ho
  have fin : ∀ (u v : Value) (b : Bool), (eqGuard (if neg then .neq else .eql) t x y u v = pure ()) → (binOp (if neg then .neq else .eql) t u v = (do pure (.bool ((← Op.equal t u v) != neg)))) → (∀ d, (Op.equalIn (d + 1) t u v).run cx.P w = .ok b w) → (do eqGuard (if neg then .neq else .eql) t x y u v; binOp (if neg then .neq else .eql) t u v : Sem Value).run cx.P w = .ok (.bool (b != neg)) w := by
    intro u v b q1 q2 q3
    have q4 : (Op.equal t u v).run cx.P w = .ok b w := q3 9999
    rw [q1, q2]
    simp only [Sem.run_bind, Sem.run_pure, Result.andThen_ok, q4]
  have bo : ∀ p nn cc, binOp (if neg then .neq else .eql) t (.slice p nn cc) (.slice none 0 0) = (do pure (.bool ((← Op.equal t (.slice p nn cc) (.slice none 0 0)) != neg)) : Sem Value) := by
    intro p nn cc
    cases neg
    · show (do pure (.bool (← Op.equal t _ _)) : Sem Value) = _
      congr 1; funext b; cases b <;> rfl
    · show (do pure (.bool !(← Op.equal t _ _)) : Sem Value) = _
      congr 1; funext b; cases b <;> rfl
  have key : ∀ (u v : Value), VRel r w u (.sl st fl sz xs) → VRel r w v .nils → ∃ b, nilB neg xs b ∧ (do eqGuard (if neg then .neq else .eql) t x y u v; binOp (if neg then .neq else .eql) t u v : Sem Value).run cx.P w = .ok (.bool b) w := by
    intro u v hu' hv'
    cases hv'
    have eg : ∀ p nn cc, eqGuard (if neg then .neq else .eql) t x y (.slice p nn cc) (.slice none 0 0) = pure () := by
      intro p nn cc
      cases neg <;> rfl
    cases hu' with
    | sl0 hff =>
      rename_i a cap
      cases a with
      | none => exact ⟨_, (fun h => absurd rfl h), fin _ _ true (eg ..) (bo ..) fun d => by simp [Op.equalIn, run_underlying hu]⟩
      | some p => exact ⟨_, (fun h => absurd rfl h), fin _ _ false (eg ..) (bo ..) fun d => by simp [Op.equalIn, run_underlying hu]⟩
    | sl hn hc0 hff hI hS hsz f hc hv =>
      refine ⟨_, ?_, fin _ _ false (eg ..) (bo ..) fun d => by simp [Op.equalIn, run_underlying hu]⟩
      intro _
      cases neg <;> rfl
  obtain ⟨b, hb, hrun⟩ := key _ _ h1 h2
  refine ⟨b, hb, r, w, .bool b, .inl ?_, .bool, hi, Ext.refl _ _ _⟩
  simp only [execOp]
  exact exec_v hrun
theorem S_nilQ {all : Array Oper} {o : Oper} {l : List Oper} {K : List Nat} {t e t' : TypeId} {x y : Operand} {st fl : Bool} {sz : Nat} {xs : List AV} (neg : Bool) (ho : o.op = .binOp (if neg then .neq else .eql) t x y t') (hu : cx.P.underlying t = some (.slice e)) (hx : ev cx fr x = .sl st fl sz xs) (hy : ev cx fr y = .nils)
    (hg : guardA all o K fr = some true) (hd : dstOk n o.dst = true) (hk : ∀ b, (xs ≠ [] → b = neg) → S cx n B (.ops all l K :: k) Q (setA o.dst (.bool b) fr) σ) : S cx n B (.ops all (o :: l) K :: k) Q fr σ :=
  S_doB (nilB neg xs) hg hd (nil_run ho hu hx hy) hk
theorem OpSpec.nilSl {o : Oper} {t e t' : TypeId} {x y : Operand} {st fl : Bool} {sz : Nat} {xs : List AV} (neg : Bool) (ho : o.op = .binOp (if neg then .neq else .eql) t x y t') (hu : cx.P.underlying t = some (.slice e)) (hx : ev cx fr x = .sl st fl sz xs) (hy : ev cx fr y = .nils) (hne : xs ≠ []) :
    OpSpec cx n fr σ o (.bool neg) σ := by
  intro r ac w hi hf
  obtain ⟨b, hb, h⟩ := nil_run (neg := neg) ho hu hx hy r ac w hi hf
  rw [hb hne] at h
  exact h
theorem OpSpec.nilN {o : Oper} {t e t' : TypeId} {x y : Operand} (neg : Bool) (ho : o.op = .binOp (if neg then .neq else .eql) t x y t') (hu : cx.P.underlying t = some (.slice e)) (hx : ev cx fr x = .nils) (hy : ev cx fr y = .nils) :
    OpSpec cx n fr σ o (.bool !neg) σ := by
  intro r ac w hi hf
  have h1 := ev_rel hi hf x
  have h2 := ev_rel hi hf y
  rw [hx] at h1
  rw [hy] at h2
  obtain ⟨dst, op, ty, pos, after, guard⟩ := o
  simp only at ho
  subst ho
  have key : ∀ (u v : Value), VRel r w u .nils → VRel r w v .nils → (do eqGuard (if neg then .neq else .eql) t x y u v; binOp (if neg then .neq else .eql) t u v : Sem Value).run cx.P w = .ok (.bool !neg) w := by
    intro u v hu' hv'
    cases hu'
    cases hv'
    have q3 : (Op.equal t (.slice none 0 0) (.slice none 0 0)).run cx.P w = .ok true w := by
      have : ∀ d, (Op.equalIn (d + 1) t (.slice none 0 0) (.slice none 0 0)).run cx.P w = .ok true w := fun d => by simp [Op.equalIn, run_underlying hu]
      exact this 9999
    have q1 : eqGuard (if neg then .neq else .eql) t x y (.slice none 0 0) (.slice none 0 0) = pure () := by cases neg <;> rfl
    rw [q1]
    cases neg
    · have q2 : binOp (if false = true then .neq else .eql) t (.slice none 0 0) (.slice none 0 0) = (do pure (.bool (← Op.equal t (.slice none 0 0) (.slice none 0 0))) : Sem Value) := rfl
      rw [q2]
      simp only [Sem.run_bind, Sem.run_pure, Result.andThen_ok, q3]; rfl
    · have q2 : binOp (if true = true then .neq else .eql) t (.slice none 0 0) (.slice none 0 0) = (do pure (.bool !(← Op.equal t (.slice none 0 0) (.slice none 0 0))) : Sem Value) := rfl
      rw [q2]
      simp only [Sem.run_bind, Sem.run_pure, Result.andThen_ok, q3]
  refine ⟨r, w, .bool !neg, .inl ?_, .bool, hi, Ext.refl _ _ _⟩
  simp only [execOp]
  exact exec_v (key _ _ h1 h2)
end
end Go.Ab
end
section
set_option linter.unusedVariables false
set_option linter.unusedSimpArgs false
set_option maxRecDepth 20000
set_option maxHeartbeats 1000000
namespace Go.Proofs.YtnfalbdnkgaelaaDoor
open Go Go.Ab
theorem txFz {st : Bool} {σ : Heap} {id ver : Nat} {xs : List Nm} {g : Tag} (h : boxAt σ id = some (ver, texts xs, g)) : Frz st σ (.ms id ver 0 xs.length 1 false) (.sl st false 1 (texts xs)) := by
  have hf : (texts xs).flatMap AV.cells = texts xs := ones_flat (texts_one _)
  refine .ms h (by rw [texts_len]; omega) ?_ (fun x hx => by obtain ⟨t, _, rfl⟩ := List.mem_map.1 hx; rfl) (texts_len _) (texts_any _)
  rw [hf, List.drop_zero]
  exact List.take_of_length_le (by rw [texts_len]; omega)
theorem Clone_ok (st fl : Bool) (xs : List Nm) (hl : xs.length ≤ 1000000000) : Calc cx 44 [.sl st fl 1 (texts xs)] (.sl true false 1 (texts xs)) :=
  pure_intro (fun a w => Tryd.call44 a w) Tryd.func44 rfl Tryd.ntmps44 rfl (.sl (fun _ => rfl) (texts_any xs)) fun B => by
    have hfa : flatA 1 (texts xs) = texts xs := rfl
    have htl := texts_len xs
    refine pB [] rfl ?_
    refine S_nilQ false rfl Tryd.underlying23 rfl rfl rfl rfl fun b hb => ?_
    cases b with
    | true =>
      have : xs = [] := by
        cases xs with
        | nil => rfl
        | cons a r => exact absurd (hb (by simp [texts])) (by simp)
      subst this
      refine pB [.b true] rfl ?_
      exact S_ret ⟨_, _, rfl, trivial, _, rfl, .nils⟩
    | false =>
      refine pa [.b false] rfl ?_ ?_
      · (repeat' with_reducible apply AllP_cons) <;> try exact aC
        · exact texts_one xs
        · exact texts_one xs
        · exact .inr rfl
        · show ((0 : Nat) + (texts xs).length) * 16 ≤ 140737488355328
          omega
      refine S_ret ⟨_, _, rfl, trivial, _, rfl, ?_⟩
      have e : (0 : Nat) + (texts xs).length = xs.length := by omega
      show Frz true [(0, some (.cells (texts xs) _))] (.ms 0 0 0 (0 + (texts xs).length) 1 false) _
      rw [e]
      exact txFz rfl
end Go.Proofs.YtnfalbdnkgaelaaDoor
end
section
set_option linter.unusedVariables false
set_option linter.unusedSimpArgs false
set_option maxRecDepth 20000
namespace Go.Proofs.YtnfalbdnkgaelaaDoor
open Go Go.Ab
def firstOf {α : Type} [DecidableEq α] (l : List α) (x : α) : Int := match l.idxOf? x with | some i => i | none => -1
theorem firstOf_no {α : Type} [DecidableEq α] {l : List α} {x : α} (h : x ∉ l) : firstOf l x = -1 := by
  unfold firstOf
  rw [List.idxOf?_eq_none_iff.2 h]
theorem firstOf_at {α : Type} [DecidableEq α] {l : List α} {x : α} {i : Nat} (hi : i < l.length) (h : l[i] = x) (hn : x ∉ l.take i) : firstOf l x = i := by
  unfold firstOf
  have : l.idxOf? x = some i := by
    rw [List.idxOf?, List.findIdx?_eq_some_iff_getElem]
    refine ⟨hi, by simp [h], fun j hj => ?_⟩
    intro hb
    refine hn ?_
    have : l[j] = x := by simpa using hb
    rw [← this]
    exact List.mem_take_iff_getElem.2 ⟨j, by omega, rfl⟩
  rw [this]
theorem IndexS_ok {st fl : Bool} (l : List (List UInt8)) (s : List UInt8) (hl : l.length ≤ 1000000) : Calc cx 55 [.sl st fl 1 (texts l), .str s] (.int .i64 (firstOf l s)) :=
  pure_intro (fun a w => Tryd.call55 a w) Tryd.func55 rfl Tryd.ntmps55 rfl .int fun B => by
    have htl := texts_len l
    refine ab 1000 rfl trivial ?_
    refine S_while (α := Nat) (fun i => [(0, .sl st fl 1 (texts l)), (1, .str s), (7, .int .i64 (l.length : Nat)), (8, .int .i64 (i : Nat))]) (fun _ => []) (fun i => i ≤ l.length ∧ s ∉ l.take i) (fun i => l.length - i) 0
      ⟨Nat.zero_le _, by simp⟩ (.cons rfl (.cons rfl (.cons (by show AV.int .i64 ((texts l).length : Nat) = _; rw [htl]) (.cons rfl (.nil _))))) rfl ?_
    rintro i ⟨hi, hN⟩
    have hi : i ≤ l.length := hi
    by_cases hlt : i < l.length
    · have e1 : (texts l)[(i : Int).toNat]? = some (.str l[i]) := texts_get hlt
      by_cases he : s = l[i]
      · refine pa [.b true, .v (.str l[i]), .b true] rfl ?_ ?_
        · (repeat' with_reducible apply AllP_cons) <;> try exact aC
          exact beq_iff_eq.2 he
        refine S_retc .int rfl trivial ?_
        rw [firstOf_at hlt he.symm hN]; rfl
      · refine pa [.b true, .v (.str l[i]), .b false] rfl ?_ ?_
        · (repeat' with_reducible apply AllP_cons) <;> try exact aC
          exact beq_false_of_ne he
        refine S_round (i + 1) (by show l.length - (i + 1) < l.length - i; omega) ⟨hlt, fun hm => ?_⟩ (.cons rfl (.cons rfl (.cons rfl (.cons (ai64 rfl (by omega)) (.nil _))))) rfl
        rw [List.take_succ_eq_append_getElem hlt] at hm
        rcases List.mem_append.1 hm with hm | hm
        · exact hN hm
        · simp at hm; exact he hm
    · obtain rfl : i = l.length := by omega
      rw [List.take_length] at hN
      refine pB [.b false] rfl ?_
      refine S_retc .int rfl trivial ?_
      rw [firstOf_no hN]; rfl
end Go.Proofs.YtnfalbdnkgaelaaDoor
end
section
set_option linter.unusedVariables false
set_option linter.unusedSimpArgs false
set_option maxRecDepth 20000
set_option maxHeartbeats 1000000
namespace Go.Proofs.YtnfalbdnkgaelaaDoor
open Go Go.Ab
def RoadN (nd : Nm → List Nm) (r : List Nm) : Prop := ∀ i (h : i + 1 < r.length), r[i + 1] ∈ nd r[i]
structure CirC (nd : Nm → List Nm) (ns c : List Nm) : Prop where
  pos : 0 < c.length
  dup : c.Nodup
  mem : ∀ x ∈ c, x ∈ ns
  next : ∀ i (h : i < c.length), c[(i + 1) % c.length]'(Nat.mod_lt _ (by omega)) ∈ nd c[i]
theorem RoadN.snoc {nd : Nm → List Nm} {r : List Nm} {n k : Nm} (h : RoadN nd (r ++ [n])) (hk : k ∈ nd n) : RoadN nd (r ++ [n] ++ [k]) := by
  intro i hi
  rw [List.length_append] at hi
  have hi : i + 1 < (r ++ [n]).length + 1 := hi
  by_cases h1 : i + 1 < (r ++ [n]).length
  · rw [List.getElem_append_left h1, List.getElem_append_left (by omega)]
    exact h i h1
  · have e : i + 1 = (r ++ [n]).length := by omega
    have e2 : i = r.length := by rw [List.length_append] at e; exact Nat.succ.inj e
    have h3 : (r ++ [n] ++ [k])[i + 1] = k := by simp [e2]
    have h4 : (r ++ [n] ++ [k])[i] = n := by simp [e2]
    rw [h3, h4]; exact hk
theorem RoadN.circle {nd : Nm → List Nm} {ns r : List Nm} {n : Nm} {i : Nat} (h : RoadN nd (r ++ [n])) (hn : r.Nodup) (hm : ∀ x ∈ r, x ∈ ns) (hi : i < r.length) (he : r[i] = n) : CirC nd ns (r.drop i) := by
  refine ⟨by rw [List.length_drop]; omega, hn.drop, (fun x hx => hm x (List.mem_of_mem_drop hx)), fun j hj => ?_⟩
  rw [List.length_drop] at hj
  have e1 : (r.drop i)[j] = r[i + j] := by rw [List.getElem_drop]
  rw [e1]
  have hr := h (i + j) (by rw [List.length_append]; show i + j + 1 < r.length + 1; omega)
  rw [List.getElem_append_left (show i + j < r.length by omega)] at hr
  by_cases hl : j + 1 < r.length - i
  · have e2 : (j + 1) % (r.drop i).length = j + 1 := Nat.mod_eq_of_lt (by rw [List.length_drop]; exact hl)
    have e3 : (r.drop i)[(j + 1) % (r.drop i).length]'(Nat.mod_lt _ (by rw [List.length_drop]; omega)) = r[i + j + 1] := by
      simp only [e2, List.getElem_drop]; rfl
    rw [e3]
    rw [List.getElem_append_left (show i + j + 1 < r.length by omega)] at hr
    exact hr
  · have e2 : (j + 1) % (r.drop i).length = 0 := by rw [show j + 1 = (r.drop i).length by rw [List.length_drop]; omega]; exact Nat.mod_self _
    have e3 : (r.drop i)[(j + 1) % (r.drop i).length]'(Nat.mod_lt _ (by rw [List.length_drop]; omega)) = n := by
      simp only [e2, List.getElem_drop]; exact he
    rw [e3]
    rw [List.getElem_append_right (show r.length ≤ i + j + 1 by omega)] at hr
    simp only [List.getElem_singleton] at hr
    exact hr
theorem CirC.way {nd : Nm → List Nm} {ns c : List Nm} (h : CirC nd ns c) : ∃ x ∈ ns, Way (NeedR nd) x x := by
  have hp := h.pos
  have hs : ∀ i (hi : i + 1 < c.length), NeedR nd c[i] c[i + 1] := fun i hi => by
    have h1 := h.next i (by omega)
    have e : (i + 1) % c.length = i + 1 := Nat.mod_eq_of_lt hi
    simp only [e] at h1
    exact h1
  have hl : NeedR nd (c[c.length - 1]'(by omega)) c[0] := by
    have h1 := h.next (c.length - 1) (by omega)
    have e : (c.length - 1 + 1) % c.length = 0 := by rw [show c.length - 1 + 1 = c.length by omega]; exact Nat.mod_self _
    simp only [e] at h1
    exact h1
  have hw : ∀ d i (hi : i < c.length), i + d + 1 = c.length → Way (NeedR nd) c[i] c[0] := by
    intro d
    induction d with
    | zero =>
      intro i hi he
      have : i = c.length - 1 := by omega
      subst this
      exact .one hl
    | succ d ih =>
      intro i hi he
      exact .cons (hs i (by omega)) (ih (i + 1) (by omega) (by omega))
  exact ⟨c[0], h.mem _ (List.getElem_mem hp), hw (c.length - 1) 0 hp (by omega)⟩
structure WkI (l : List Tg) (road done : List Nm) : Prop where
  good : Good (ndT l) done
  dm : ∀ x ∈ done, x ∈ nmsG l
  nd : road.Nodup
  rm : ∀ x ∈ road, x ∈ nmsG l
  ap : ∀ x ∈ road, x ∉ done
def wkF : AV := .func (.func 54) [] [.ptr 4 0 0, .ptr 3 0 0, .ptr 1 0 0, .ptr 5 0 0]
def ciH (st : Bool) (l : List Tg) (road done : List Nm) (v : Nat) (τ : Heap) : Heap :=
  [(0, nmM st l), (0, some (.cells [.map 0 0] ⟨false, none⟩)), (0, inBx done), (0, some (.cells [.map 2 0] ⟨false, none⟩)), (0, some (.cells [.ms 6 v 0 road.length 1 false] ⟨false, none⟩)), (0, some (.cells [wkF] ⟨false, none⟩)), (v, some (.cells (texts road) ⟨false, none⟩))] ++ τ
def WkR (st : Bool) (l : List Tg) (road done : List Nm) (n : Nm) (τ : Heap) (e : Out) (s : Heap) : Prop :=
  (∃ done' v', e = .ret .nils ∧ s = ciH st l road done' v' τ ∧ WkI l road done' ∧ (∀ x ∈ done, x ∈ done') ∧ n ∈ done') ∨ ∃ c, CirC (ndT l) (nmsG l) c ∧ e = .ret (.sl true false 1 (texts c))
theorem walk_ok (st : Bool) (l : List Tg) (τ : Heap) (hok : NmOk l) (hz : TgSz l) : ∀ (m : Nat) (road done : List Nm) (v : Nat) (n : Nm), WkI l road done → RoadN (ndT l) (road ++ [n]) → n ∈ nmsG l → l.length < road.length + m →
    CallOk cx 54 [.str n, .ptr 4 0 0, .ptr 3 0 0, .ptr 1 0 0, .ptr 5 0 0] (ciH st l road done v τ) (WkR st l road done n τ) := by
  intro m
  induction m with
  | zero =>
    intro road done v n hI hr hn hl
    have := List.Nodup.length_le_of_subset hI.nd (l₂ := nmsG l) (fun x hx => hI.rm x hx)
    rw [nms_len] at this; omega
  | succ m ih =>
    intro road done v n hI hr hn hl
    exact callOk_intro (fun a w => Tryd.call54 a w) Tryd.func54 rfl Tryd.ntmps54 rfl fun B => by
      have hl60 := hok.len
      have hrl : road.length ≤ l.length := by
        have := List.Nodup.length_le_of_subset hI.nd (l₂ := nmsG l) (fun x hx => hI.rm x hx)
        rwa [nms_len] at this
      have htl := texts_len road
      have hS := IndexS_ok (st := false) (fl := false) road n (by omega)
      by_cases hnr : n ∈ road
      · obtain ⟨i, hi, he⟩ := List.getElem_of_mem hnr
        have hf : firstOf road n = (i : Int) := firstOf_at hi he fun h => by
          obtain ⟨j, hj, e⟩ := List.mem_take_iff_getElem.1 h
          have := (List.getElem_inj hI.nd).1 (e.trans he.symm)
          omega
        rw [hf] at hS
        have hge : decide ((i : Int) ≥ 0) = true := decide_eq_true (by omega)
        have hC := hr.circle hI.nd hI.rm hi he
        have hCl := Clone_ok false false (road.drop i) (by rw [List.length_drop]; omega)
        refine pas [.v (.int .i64 (i : Nat)), .b true, .v (.sl true false 1 (texts (road.drop i)))] rfl ?_ ?_
        · (repeat' with_reducible apply AllP_cons) <;> try exact aC
          · exact ⟨_, hS, .cons (txFz rfl) (.cons (.refl .str) (.nil _))⟩
          · refine ⟨_, hCl, .cons ?_ (.nil _)⟩
            show Frz false _ (.ms 6 v (0 + (i : Int).toNat * 1) ((road.length : Int).toNat - (i : Int).toNat) 1 false) _
            have e1 : 0 + (i : Int).toNat * 1 = i := by rw [Int.toNat_natCast]; omega
            have e2 : (road.length : Int).toNat - (i : Int).toNat = road.length - i := by rw [Int.toNat_natCast, Int.toNat_natCast]
            have hdt : (texts road).drop i = texts (road.drop i) := by unfold texts; rw [List.map_drop]
            rw [e1, e2]
            refine .ms (cs := texts road) (ro := ⟨false, none⟩) rfl (by rw [htl]; omega) ?_ (fun x hx => by obtain ⟨t, _, rfl⟩ := List.mem_map.1 hx; rfl) (by rw [texts_len, List.length_drop]) (texts_any _)
            rw [ones_flat (texts_one _), hdt]
            exact List.take_of_length_le (by rw [texts_len, List.length_drop]; omega)
        exact S_ret ⟨_, _, rfl, trivial, .inr ⟨_, hC, rfl⟩⟩
      · have hf : firstOf road n = -1 := firstOf_no hnr
        rw [hf] at hS
        by_cases hd : n ∈ done
        · refine pas [.v (.int .i64 (-1)), .b false, .v (.bool true), .b true] rfl ?_ ?_
          · (repeat' with_reducible apply AllP_cons) <;> try exact aC
            · exact ⟨_, hS, .cons (txFz rfl) (.cons (.refl .str) (.nil _))⟩
            · exact OpSpec.mget (id := 2) (ver := 0) (ks := done) (val := fun _ => .bool true) (s := n) (z := .bool false) rfl Tryd.underlying62 rfl rfl rfl rfl rfl (by rw [if_pos hd]; rfl)
          exact S_ret ⟨_, _, rfl, trivial, .inl ⟨_, _, rfl, rfl, hI, (fun x hx => hx), hd⟩⟩
        · refine pas [.v (.int .i64 (-1)), .b false, .v (.bool false), .b false, .v (ndV st (ndT l) n)] rfl ?_ ?_
          · (repeat' with_reducible apply AllP_cons) <;> try exact aC
            · exact ⟨_, hS, .cons (txFz rfl) (.cons (.refl .str) (.nil _))⟩
            · exact OpSpec.mget (id := 2) (ver := 0) (ks := done) (val := fun _ => .bool true) (s := n) (z := .bool false) rfl Tryd.underlying62 rfl rfl rfl rfl rfl (by rw [if_neg hd]; rfl)
            · show 0 + road.length * 1 = (texts road).length
              omega
            · show (road.length + 1) * 16 ≤ 140737488355328
              omega
            · exact OpSpec.mget (id := 0) (ver := 0) (ks := nmsG l) (val := ndV st (ndT l)) (s := n) (z := .nils) rfl Tryd.underlying57 rfl rfl rfl rfl rfl (by rw [if_pos hn]; rfl)
          have hel : (road ++ [n]).length = road.length + 1 := by rw [List.length_append]; rfl
          have hte : texts (road ++ [n]) = texts road ++ [.str n] := by simp [texts]
          have hnd2 : (road ++ [n]).Nodup := List.nodup_append.2 ⟨hI.nd, by simp, fun a ha c hc e => by rw [List.mem_singleton.1 hc] at e; exact hnr (e ▸ ha)⟩
          have hI2 : WkI l (road ++ [n]) done := ⟨hI.good, hI.dm, hnd2, fun x hx => by
            rcases List.mem_append.1 hx with hx | hx
            · exact hI.rm x hx
            · rw [List.mem_singleton.1 hx]; exact hn, fun x hx => by
            rcases List.mem_append.1 hx with hx | hx
            · exact hI.ap x hx
            · rw [List.mem_singleton.1 hx]; exact hd⟩
          refine S_heap (ciH st l (road ++ [n]) done (v + 1) τ) (by unfold ciH; rw [hel, hte]; rfl) ?_
          have hnl := texts_len (ndT l n)
          have hln := hz.ndT n
          refine S_while (α := Nat × List Nm × Nat) (fun s => [(0, .str n), (1, .ptr 4 0 0), (2, .ptr 3 0 0), (3, .ptr 1 0 0), (4, .ptr 5 0 0), (29, .sl st false 1 (texts (ndT l n))), (30, .int .i64 ((texts (ndT l n)).length : Nat)), (31, .int .i64 (s.1 : Nat))]) (fun s => ciH st l (road ++ [n]) s.2.1 s.2.2 τ)
            (fun s => s.1 ≤ (ndT l n).length ∧ WkI l (road ++ [n]) s.2.1 ∧ (∀ x ∈ done, x ∈ s.2.1) ∧ ∀ k ∈ (ndT l n).take s.1, k ∈ s.2.1) (fun s => (ndT l n).length - s.1) (0, done, v + 1) ⟨Nat.zero_le _, hI2, (fun x hx => hx), fun k h => by cases h⟩ (.cons rfl (.cons rfl (.cons rfl (.cons rfl (.cons rfl (.cons rfl (.cons rfl (.cons rfl (.nil _))))))))) rfl ?_
          rintro ⟨j, dn, u⟩ ⟨hj, hJ, hdd, hjk⟩
          simp only at hj hJ hdd hjk
          by_cases hjl : j < (ndT l n).length
          · have d1 : decide ((j : Int) < (((texts (ndT l n)).length : Nat) : Int)) = true := decide_eq_true (by omega)
            have d2 : (texts (ndT l n))[(j : Int).toNat]? = some (.str (ndT l n)[j]) := by rw [Int.toNat_natCast]; exact texts_get hjl
            have hkn := List.getElem_mem hjl
            have htk : (ndT l n).take (j + 1) = (ndT l n).take j ++ [(ndT l n)[j]] := List.take_succ_eq_append_getElem hjl
            generalize (ndT l n)[j] = k at *
            have hrec := ih (road ++ [n]) dn u k hJ (hr.snoc hkn) (hok.ndT n hn k hkn) (by rw [hel]; omega)
            refine pas [.b true, .v (.str k)] rfl ?_ ?_
            · (repeat' with_reducible apply AllP_cons) <;> try exact aC
            refine S_call rfl rfl rfl hrec (fun v' σ' hv => ?_) (fun v' σ' hv => ?_)
            case _ =>
              rcases hv with ⟨dn', u', h1, h2, h3, h4, h5⟩ | ⟨c, h1, h2⟩
              · cases h1; subst h2
                refine pas [.v (.bool false), .b false] rfl ?_ ?_
                · (repeat' with_reducible apply AllP_cons) <;> try exact aC
                  · exact OpSpec.nilN true rfl Tryd.underlying23 rfl rfl
                exact S_round (j + 1, dn', u') (by show (ndT l n).length - (j + 1) < (ndT l n).length - j; omega) ⟨hjl, h3, (fun x hx => h4 x (hdd x hx)), fun q hq => by
                  have hq : q ∈ (ndT l n).take (j + 1) := hq
                  rw [htk] at hq
                  rcases List.mem_append.1 hq with hq | hq
                  · exact h4 q (hjk q hq)
                  · rw [List.mem_singleton.1 hq]; exact h5⟩ (.cons rfl (.cons rfl (.cons rfl (.cons rfl (.cons rfl (.cons rfl (.cons rfl (.cons (ai64 (by omega) (by omega)) (.nil _))))))))) rfl
              · cases h2
                have hne : texts c ≠ [] := fun e => by
                  have h5 := h1.pos
                  rw [← texts_len c, e] at h5
                  exact absurd h5 (by simp)
                refine pas [.v (.bool true), .b true] rfl ?_ ?_
                · (repeat' with_reducible apply AllP_cons) <;> try exact aC
                  · exact OpSpec.nilSl true rfl Tryd.underlying23 rfl rfl hne
                exact S_ret ⟨_, _, rfl, trivial, .inr ⟨c, h1, rfl⟩⟩
            case _ =>
              rcases hv with ⟨dn', u', h1, h2, h3, h4, h5⟩ | ⟨c, h1, h2⟩
              · cases h1
              · cases h2
          · have hje : j = (ndT l n).length := by omega
            have d1 : decide ((j : Int) < (((texts (ndT l n)).length : Nat) : Int)) = false := decide_eq_false (by omega)
            rw [hje, List.take_length] at hjk
            refine pas [.b false] rfl ?_ ?_
            · (repeat' with_reducible apply AllP_cons) <;> try exact aC
            have hw1 : (IntKind.i64.wrap ((((road ++ [n]).length : Nat) : Int) - 1)).toNat - 0 = road.length := by
              rw [w64 (k := road.length) (by omega) (by omega)]; simp
            refine S_heap ([(0, nmM st l), (0, some (.cells [.map 0 0] ⟨false, none⟩)), (0, inBx dn), (0, some (.cells [.map 2 0] ⟨false, none⟩)), (0, some (.cells [.ms 6 u 0 road.length 1 false] ⟨false, none⟩)), (0, some (.cells [wkF] ⟨false, none⟩)), (u, some (.cells (texts (road ++ [n])) ⟨false, none⟩))] ++ τ) ?_ ?_
            · show [(0, nmM st l), (0, some (Box.cells [.map 0 0] ⟨false, none⟩)), (0, inBx dn), (0, some (.cells [.map 2 0] ⟨false, none⟩)), (0, some (.cells [.ms 6 u 0 ((IntKind.i64.wrap ((((road ++ [n]).length : Nat) : Int) - 1)).toNat - 0) 1 false] ⟨false, none⟩)), (0, some (.cells [wkF] ⟨false, none⟩)), (u, some (.cells (texts (road ++ [n])) ⟨false, none⟩))] ++ τ = _
              rw [hw1]
            refine S_cut (id := 6) road.length rfl ⟨.skip, _, .inr ⟨_, _, _, rfl⟩⟩ ?_
            refine S_heap (ciH st l road dn u τ) ?_ ?_
            · have : (texts (road ++ [n])).take road.length = texts road := by rw [hte, List.take_append_of_le_length (by omega)]; exact List.take_of_length_le (by omega)
              show [_, _, _, _, _, _, (u, some (Box.cells ((texts (road ++ [n])).take road.length) ⟨false, none⟩))] ++ τ = _
              rw [this]; rfl
            have hnd3 : n ∉ dn := hJ.ap n (by simp)
            have hak : addK dn n = dn ++ [n] := by unfold addK; rw [if_neg hnd3]
            refine pas [.f (.tup []) (fun _ => ciH st l road (dn ++ [n]) u τ)] rfl ?_ ?_
            · (repeat' with_reducible apply AllP_cons) <;> try exact aC
              · refine OpSpec.mput (id := 2) (ver := 0) (ks := dn) (val := fun _ => .bool true) (s := n) (v := .bool true) rfl Tryd.underlying62 rfl rfl rfl rfl rfl hJ.good.nodup ?_
                rw [updF_const, hak]; rfl
            refine S_ret ⟨_, _, rfl, trivial, .inl ⟨_, _, rfl, rfl, ⟨.snoc hJ.good hnd3 hjk, fun x hx => ?_, hI.nd, hI.rm, fun x hx hx2 => ?_⟩, (fun x hx => List.mem_append_left _ (hdd x hx)), List.mem_append_right _ (by simp)⟩⟩
            · rcases List.mem_append.1 hx with hx | hx
              · exact hJ.dm x hx
              · rw [List.mem_singleton.1 hx]; exact hn
            · rcases List.mem_append.1 hx2 with hx2 | hx2
              · exact hJ.ap x (List.mem_append_left _ hx) hx2
              · rw [List.mem_singleton.1 hx2] at hx; exact hnr hx
end Go.Proofs.YtnfalbdnkgaelaaDoor
end
section
set_option linter.unusedVariables false
set_option linter.unusedSimpArgs false
set_option maxRecDepth 20000
set_option maxHeartbeats 1000000
namespace Go.Proofs.YtnfalbdnkgaelaaDoor
open Go Go.Ab
structure CirI (l : List Tg) (c : List Nm) : Prop where
  bad : nmE l ≠ 0 → c = []
  none : nmE l = 0 → c = [] → ∀ x ∈ nmsG l, ¬ Way (NeedR (ndT l)) x x
  some : nmE l = 0 → c ≠ [] → CirC (ndT l) (nmsG l) c
theorem Circle_ok (st st' fl : Bool) (l : List Tg) (hl : l.length ≤ 1000000000) (hz : TgSz l) : CallOk cx 33 [.sl st' fl 5 (tgs st l)] [] (fun e s => ∃ c, CirI l c ∧ e = .ret (.tup [.sl true false 1 (texts c), .int .i64 (nmE l : Nat)]) ∧ s = []) :=
  callOk_introT (fun a w => Tryd.call33 a w) Tryd.func33 rfl Tryd.ntmps33 rfl fun B => by
    have hn := named_ok st st' fl l hl hz
    have hll := tgs_len st l
    by_cases h : nmE l = 0
    case neg =>
      have hR : nmR l = .tup [.nilm, .int .i64 (nmE l : Nat)] := by unfold nmR; rw [if_neg h]
      have hH : nmH st l = [] := by unfold nmH; rw [if_neg h]
      rw [hR, hH] at hn
      have hne := i64_ne h
      refine pB [.f (.tup [.nilm, .int .i64 (nmE l : Nat)]) (fun _ => []), .b true] rfl ?_
      refine S_ret ⟨_, _, rfl, trivial, 0, Nat.le_refl _, LowH.of (fun e he => by simp at he), _, ?_, [], ⟨fun _ => rfl, fun h' => absurd h' h, fun h' => absurd h' h⟩, rfl, rfl⟩
      refine .tup rfl fun i h1 h2 => ?_
      match i, h1, h2 with
      | 0, h1, h2 => exact .nils
      | 1, h1, h2 => exact .low .int
      | i + 2, h1, h2 => exact absurd h1 (by simp [tupOf])
    have hR : nmR l = .tup [.map 0 0, .int .i64 0] := by unfold nmR; rw [h]; rfl
    have hH : nmH st l = [(0, nmM st l)] := by unfold nmH; rw [if_pos h]
    rw [hR, hH] at hn
    have hok := nmE_ok.1 h
    have hl60 := hok.len
    refine pa [.f (.tup [.map 0 0, .int .i64 0]) (fun _ => [(0, nmM st l)]), .b false, .f (.map 2 0) (fun _ => [(0, nmM st l), (0, some (.cells [.map 0 0] ⟨false, none⟩)), (0, some (.map [] (some ([], 0))))])] rfl ?_ ?_
    · (repeat' with_reducible apply AllP_cons) <;> try exact aC
      · exact OpSpec.mapN rfl trivial
    refine S_unstamp (id := 2) rfl ?_ ⟨_, _, .inl rfl⟩
    refine S_ghost (id := 4) (j := 0) 1 ⟨false, none⟩ rfl rfl rfl (Nat.ne_of_lt (lble rfl)) ⟨_, _, .inl rfl⟩ ?_
    refine S_dead ?_ ⟨_, _, .inl rfl⟩
    have hce0 : ((nmE l : Nat) : Int) = 0 := by rw [h]; rfl
    refine S_while (α := (Nat × List Nm × Nat) × Nat × Option Box) (fun s => [(8, .ptr 5 0 0), (22, .sl st' fl 5 (tgs st l)), (23, .int .i64 ((tgs st l).length : Nat)), (24, .int .i64 (s.1.1 : Nat))]) (fun s => ciH st l [] s.1.2.1 s.1.2.2 [(s.2.1, s.2.2)])
      (fun s => s.1.1 ≤ l.length ∧ WkI l [] s.1.2.1 ∧ ∀ x ∈ nmsG (l.take s.1.1), x ∈ s.1.2.1) (fun s => l.length - s.1.1) ((0, [], 0), 0, none) ⟨Nat.zero_le _, ⟨.nil, (fun x hx => by cases hx), .nil, (fun x hx => by cases hx), fun x hx => by cases hx⟩, fun x hx => by cases hx⟩ (.cons rfl (.cons rfl (.cons rfl (.cons rfl (.nil _))))) rfl ?_
    rintro ⟨⟨i, dn, v⟩, w, y⟩ ⟨hi, hI, hm⟩
    simp only at hi hI hm
    refine S_drop (id := 7) rfl ?_ ⟨_, _, .inl rfl⟩
    refine S_heap (ciH st l [] dn v [(w, none)]) rfl ?_
    by_cases hlt : i < l.length
    · have c1 : decide ((i : Int) < (((tgs st l).length : Nat) : Int)) = true := decide_eq_true (by omega)
      have c2 : (tgs st l)[(i : Int).toNat]? = some (tgA st l[i]) := by rw [Int.toNat_natCast]; exact tgs_get hlt
      have hnm : l[i].name ∈ nmsG l := List.mem_map.2 ⟨_, List.getElem_mem hlt, rfl⟩
      have hsn := nms_snoc hlt
      have hai : AV.int .i64 (IntKind.i64.wrap ((i : Int) + 1)) = .int .i64 ((i + 1 : Nat) : Int) := ai64 rfl (by omega)
      generalize l[i] = t at *
      have hw := walk_ok st l [(w + 1, (some (.cells [.str t.name, lsA st t.srcs, lsA st t.needs, lsA st t.outs, lsA st t.cmd] ⟨false, some 44⟩)))] hok hz (l.length + 1) [] dn v t.name hI (fun j hj => by simp at hj) hnm (by simp)
      refine pB [.b true, .v (tgA st t)] rfl ?_
      refine S_call rfl rfl rfl hw (fun v' σ' hv => ?_) (fun v' σ' hv => ?_)
      case _ =>
        rcases hv with ⟨dn', u', h1, h2, h3, h4, h5⟩ | ⟨c, h1, h2⟩
        · cases h1; subst h2
          refine pa [.v (.bool false), .b false] rfl ?_ ?_
          · (repeat' with_reducible apply AllP_cons) <;> try exact aC
            · exact OpSpec.nilN true rfl Tryd.underlying23 rfl rfl
          exact S_round ((i + 1, dn', u'), w + 1, some (.cells [.str t.name, lsA st t.srcs, lsA st t.needs, lsA st t.outs, lsA st t.cmd] ⟨false, some 44⟩)) (by show l.length - (i + 1) < l.length - i; omega) ⟨hlt, h3, fun x hx => by
            have hx : x ∈ nmsG (l.take (i + 1)) := hx
            rw [hsn] at hx
            rcases List.mem_append.1 hx with hx | hx
            · exact h4 x (hm x hx)
            · rw [List.mem_singleton.1 hx]; exact h5⟩ (.cons rfl (.cons rfl (.cons rfl (.cons hai (.nil _))))) rfl
        · cases h2
          have hne : c ≠ [] := fun e => by
            have h5 := h1.pos
            rw [e] at h5
            exact absurd h5 (by simp)
          have hne2 : texts c ≠ [] := fun e => hne (List.eq_nil_of_length_eq_zero (by rw [← texts_len c, e]; rfl))
          refine pas [.v (.bool true), .b true] rfl ?_ ?_
          · (repeat' with_reducible apply AllP_cons) <;> try exact aC
            · exact OpSpec.nilSl true rfl Tryd.underlying23 rfl rfl hne2
          refine S_ret ⟨_, _, rfl, trivial, 0, Nat.le_refl _, LowH.of (fun e he => by simp at he), _, ?_, c, ⟨fun h' => absurd h h', fun _ h' => absurd h' hne, fun _ _ => h1⟩, rfl, rfl⟩
          rw [hce0]
          refine .tup rfl fun i h1 h2 => ?_
          match i, h1, h2 with
          | 0, h1, h2 => exact .low (.sl fun a ha => by obtain ⟨t, _, rfl⟩ := List.mem_map.1 ha; exact .str)
          | 1, h1, h2 => exact .low .int
          | i + 2, h1, h2 => exact absurd h1 (by simp [tupOf])
      case _ =>
        rcases hv with ⟨dn', u', h1, h2, h3, h4, h5⟩ | ⟨c, h1, h2⟩
        · cases h1
        · cases h2
    · have hie : i = l.length := by omega
      have c1 : decide ((i : Int) < (((tgs st l).length : Nat) : Int)) = false := decide_eq_false (by omega)
      rw [hie, List.take_length] at hm
      refine pB [.b false] rfl ?_
      refine S_ret ⟨_, _, rfl, trivial, 0, Nat.zero_le _, LowH.of (fun e he => by simp at he), _, ?_, [], ⟨fun _ => rfl, fun _ _ x hx => hI.good.round x (hm x hx), fun _ h' => absurd rfl h'⟩, rfl, rfl⟩
      rw [hce0]
      refine .tup rfl fun i h1 h2 => ?_
      match i, h1, h2 with
      | 0, h1, h2 => exact .nils
      | 1, h1, h2 => exact .low .int
      | i + 2, h1, h2 => exact absurd h1 (by simp [tupOf])
end Go.Proofs.YtnfalbdnkgaelaaDoor
end
section
set_option linter.unusedVariables false
set_option linter.unusedSimpArgs false
set_option maxRecDepth 20000
set_option maxHeartbeats 1000000
namespace Go.Proofs.YtnfalbdnkgaelaaDoor
open Go Go.Ab
theorem hc_way {l : List Tg} (hok : NmOk l) : hcG l (fun _ => true) = true ↔ ∃ x ∈ nmsG l, Way (NeedR (ndT l)) x x := by
  unfold hcG
  rw [List.any_eq_true]
  constructor
  · rintro ⟨i, hi, h⟩
    have hi := List.mem_range.1 hi
    have h : rchG l i i = true := by simpa using h
    exact ⟨nmAt l i, nmAt_mem hi, way_nm hok (rchG_iff.1 h)⟩
  · rintro ⟨x, hx, h⟩
    refine ⟨atG l x, List.mem_range.2 (atG_lt hx), ?_⟩
    have := (way_pl hok h hx).2
    rw [Bool.true_and]
    exact rchG_iff.2 this
theorem hc_cir {l : List Tg} {c : List Nm} (h : nmE l = 0) (hc : CirI l c) : (c = [] ∧ hcG l (fun _ => true) = false ∧ oE l = 0) ∨ (c ≠ [] ∧ hcG l (fun _ => true) = true ∧ oE l = 10) := by
  have hok := nmE_ok.1 h
  have ho := oE_is h
  by_cases hn : c = []
  · have : hcG l (fun _ => true) = false := Bool.eq_false_iff.2 fun h' => by
      obtain ⟨x, hx, hw⟩ := (hc_way hok).1 h'
      exact hc.none h hn x hx hw
    rw [this, if_neg (by simp)] at ho
    exact .inl ⟨hn, this, ho⟩
  · have : hcG l (fun _ => true) = true := (hc_way hok).2 (hc.some h hn).way
    rw [this, if_pos rfl] at ho
    exact .inr ⟨hn, this, ho⟩
theorem GraphRounds_ok (l : List Tg) (hk : avB (.sl true false 5 (tgs true l)) ≤ 1048576) : Calc cx 11 [.sl true false 5 (tgs true l)] (.bool true) :=
  pure_intro (fun a w => Tryd.call11 a w) Tryd.func11 rfl Tryd.ntmps11 rfl .bool fun B => by
    obtain ⟨hl, hz⟩ := tgSz_of hk
    have hll := tgs_len true l
    have hO := Order_ok true true false l hl hz
    have hC := Circle_ok true true false l hl hz
    have harg : ∀ σ : Heap, Frzs σ [.sl true false 5 (tgs true l)] [.sl true false 5 (tgs true l)] := fun σ => .cons (tgs_arg ..) (.nil _)
    have hov : outAV (ordL l) (oE l) = .tup [.sl true false 1 (texts (if oE l = 0 then ordL l else [])), .int .i64 (oE l : Nat)] := by
      unfold outAV
      by_cases h : oE l = 0
      · rw [if_pos h]
      · rw [if_neg h]
    rw [hov] at hO
    generalize hx : (if oE l = 0 then ordL l else []) = x at *
    refine pa [.v (.bool true), .b false, .v (.tup [.sl true false 1 (texts x), .int .i64 (oE l : Nat)])] rfl ?_ ?_
    · (repeat' with_reducible apply AllP_cons) <;> try exact aC
      · exact begun_ok
      · exact ⟨_, hO, harg _⟩
    refine S_call rfl rfl rfl hC (fun v' σ' hv => ?_) (fun v' σ' hv => ?_)
    case _ =>
      obtain ⟨c, hc, h1, h2⟩ := hv
      cases h1; subst h2
      by_cases h : nmE l = 0
      · have hz0 : ((nmE l : Nat) : Int) = 0 := by rw [h]; rfl
        rw [hz0]
        rcases hc_cir h hc with ⟨h3, h4, h5⟩ | ⟨h3, h4, h5⟩
        · subst h3
          rw [h5, if_pos rfl] at hx
          have hol : x.length = l.length := by
            rw [← hx]
            have := h5
            unfold oE at this
            rw [if_pos h] at this
            by_cases h6 : (ordL l).length = l.length
            · exact h6
            · rw [if_neg h6] at this; cases this
          have htx := texts_len x
          have e0 : ((oE l : Nat) : Int) = 0 := by rw [h5]; rfl
          rw [e0]
          have e1 : ((((texts x).length : Nat) : Int) == (((tgs true l).length : Nat) : Int)) = true := by
            rw [htx, hll, hol]; simp
          refine pB [.b false, .b true, .b false] rfl ?_
          refine S_retc .bool rfl trivial ?_
          show AV.bool ((((texts x).length : Nat) : Int) == (((tgs true l).length : Nat) : Int)) = _
          rw [e1]
        · have e0 : ((oE l : Nat) : Int) = 10 := by rw [h5]; rfl
          rw [e0]
          have htc := texts_len c
          have hpc : 0 < c.length := List.length_pos_iff.2 h3
          have e1 : decide ((((texts c).length : Nat) : Int) > 0) = true := decide_eq_true (by omega)
          have e2 : (((10 : Int) == 10) == decide ((((texts c).length : Nat) : Int) > 0)) = true := by rw [e1]; rfl
          refine pB [.b false, .b true, .b true] rfl ?_
          exact S_retc .bool rfl trivial rfl
      · have hb := hc.bad h
        have ho : oE l = nmE l := by unfold oE; rw [if_neg h]
        have hne := i64_ne h
        rw [ho]
        have e2 : (((nmE l : Nat) : Int) == ((nmE l : Nat) : Int)) = true := by simp
        refine pB [.b true] rfl ?_
        refine S_retc .bool rfl trivial ?_
        show AV.bool (((nmE l : Nat) : Int) == ((nmE l : Nat) : Int)) = _
        rw [e2]
    case _ =>
      obtain ⟨c, hc, h1, h2⟩ := hv
      cases h1
theorem GraphCircles_ok (l : List Tg) (hk : avB (.sl true false 5 (tgs true l)) ≤ 1048576) : Calc cx 10 [.sl true false 5 (tgs true l)] (.bool true) :=
  pure_intro (fun a w => Tryd.call10 a w) Tryd.func10 rfl Tryd.ntmps10 rfl .bool fun B => by
    obtain ⟨hl, hz⟩ := tgSz_of hk
    have hll := tgs_len true l
    have hC := Circle_ok true true false l hl hz
    have hN := CheckNames_ok true true false l hl hz
    refine pB [] rfl ?_
    refine S_call rfl rfl rfl hC (fun v' σ' hv => ?_) (fun v' σ' hv => ?_)
    case _ =>
      obtain ⟨c, hc, h1, h2⟩ := hv
      cases h1; subst h2
      have htc := texts_len c
      by_cases h : nmE l = 0
      · have hz0 : ((nmE l : Nat) : Int) = 0 := by rw [h]; rfl
        rw [hz0] at hN ⊢
        rcases hc_cir h hc with ⟨h3, h4, h5⟩ | ⟨h3, h4, h5⟩
        · subst h3
          have hok := nmE_ok.1 h
          have hE := Everyone_ok true true false l (by have := hok.len; omega)
          have hH := HasCircle_ok true true false true false l (fun _ => true) hok hz
          rw [h4] at hH
          refine pa [.v (.int .i64 0), .v (.bool true), .b false, .b false, .b false, .b true, .v (.sl true false 1 (booA l.length fun _ => true)), .v (.bool false)] rfl ?_ ?_
          · (repeat' with_reducible apply AllP_cons) <;> try exact aC
            · exact ⟨_, hN, .cons (tgs_arg ..) (.nil _)⟩
            · exact begun_ok
            · exact ⟨_, hE, .cons (tgs_arg ..) (.nil _)⟩
            · exact ⟨_, hH, .cons (tgs_arg ..) (.cons (.refl (.sl (fun h => by cases h) (boo_free _ _))) (.nil _))⟩
          exact S_retc .bool rfl trivial rfl
        · have hci := hc.some h h3
          have hok := nmE_ok.1 h
          have hl60 := hok.len
          have hcl : c.length ≤ l.length := by
            have := List.Nodup.length_le_of_subset hci.dup (l₂ := nmsG l) (fun x hx => hci.mem x hx)
            rwa [nms_len] at this
          have hpc := hci.pos
          have e1 : ((((texts c).length : Nat) : Int) == 0) = false := by
            have : (((texts c).length : Nat) : Int) ≠ 0 := by omega
            simpa using this
          refine pa [.v (.int .i64 0), .v (.bool true), .b false, .b false, .b false, .b false] rfl ?_ ?_
          · (repeat' with_reducible apply AllP_cons) <;> try exact aC
            · exact ⟨_, hN, .cons (tgs_arg ..) (.nil _)⟩
            · exact begun_ok
          refine S_while (α := Nat) (fun i => [(0, .sl true false 5 (tgs true l)), (3, .sl true false 1 (texts c)), (6, .int .i64 (i : Nat))]) (fun _ => []) (fun i => i ≤ c.length) (fun i => c.length - i) 0 (Nat.zero_le _) (.cons rfl (.cons rfl (.cons rfl (.nil _)))) rfl ?_
          intro i hi
          have hi : i ≤ c.length := hi
          by_cases hlt : i < c.length
          · have f1 : decide ((i : Int) < (((texts c).length : Nat) : Int)) = true := decide_eq_true (by omega)
            have f2 : (texts c)[(i : Int).toNat]? = some (.str c[i]) := by rw [Int.toNat_natCast]; exact texts_get hlt
            have hml : (i + 1) % c.length < c.length := Nat.mod_lt _ hpc
            have hnx := hci.next i hlt
            have hxm := hci.mem _ (List.getElem_mem hlt)
            have hdup : c[i] ∉ c.take i := fun hm => by
              obtain ⟨j, hj, e⟩ := List.mem_take_iff_getElem.1 hm
              have := (List.getElem_inj hci.dup).1 e
              omega
            have f3 : (texts c)[(((i + 1) % c.length : Nat) : Int).toNat]? = some (.str c[(i + 1) % c.length]) := by rw [Int.toNat_natCast]; exact texts_get hml
            generalize c[(i + 1) % c.length] = y at *
            generalize c[i] = x at *
            have hat := atG_lt hxm
            have htA : tAt l x = ((atG l x : Nat) : Int) := by unfold tAt; rw [if_pos hxm]
            have hTx := TargetAt_ok true true false l x hl
            rw [htA] at hTx
            have hnn : ndT l x = l[atG l x].needs := by rw [← ndT_nm hok.nd hat, nmAt_at hxm]
            have c3 : (tgs true l)[((atG l x : Nat) : Int).toNat]? = some (tgA true l[atG l x]) := by rw [Int.toNat_natCast]; exact tgs_get hat
            have hnl := hz.nd _ (List.getElem_mem hat)
            rw [hnn] at hnx
            generalize l[atG l x] = t at *
            generalize atG l x = at_ at *
            have hneg : decide ((at_ : Int) < 0) = false := decide_eq_false (by omega)
            have hmd : (IntKind.i64.wrap ((i : Int) + 1)).tmod (((texts c).length : Nat) : Int) = (((i + 1) % c.length : Nat) : Int) := by
              rw [w64 (k := i + 1) (by omega) (by omega), htc]
              rfl
            have hcut : cutL none (some (i : Int)) (texts c) = texts (c.take i) := by simp [cutL, texts]
            have lend : ∀ (σ : Heap) (fl : Bool) (x : List Nm), Frz false σ (.sl true fl 1 (texts x)) (.sl true fl 1 (texts x)) := fun σ fl x => .refl (.sl (fun h => by cases h) (texts_any x))
            have hH1 := HasText_ok (st := true) (fl := false) t.needs y (by omega)
            rw [show t.needs.contains y = true by simpa using hnx] at hH1
            have hH2 := HasText_ok (st := true) (fl := false) (c.take i) x (by rw [List.length_take]; omega)
            rw [show (c.take i).contains x = false by simpa using hdup] at hH2
            refine pa [.b true, .v (.str x), .v (.int .i64 (at_ : Int)), .b false, .v (tgA true t), .v (.str y), .v (.bool true), .b false, .v (.str x), .v (.bool false), .b false] rfl ?_ ?_
            · (repeat' with_reducible apply AllP_cons) <;> try exact aC
              · exact ⟨_, hTx, .cons (tgs_arg ..) (.cons (.refl .str) (.nil _))⟩
              · rw [hmd]; omega
              · exact ⟨_, hH1, .cons (lend _ false _) (.cons (.refl .str) (.nil _))⟩
              · exact ⟨_, hH2, .cons (by show Frz false [] (AV.sl true false 1 (cutL none (some (i : Int)) (texts c))) _; rw [hcut]; exact lend _ false _) (.cons (.refl .str) (.nil _))⟩
            exact S_round (i + 1) (by show c.length - (i + 1) < c.length - i; omega) hlt (.cons rfl (.cons rfl (.cons (ai64 (by omega) (by omega)) (.nil _)))) rfl
          · have hie : i = c.length := by omega
            have f1 : decide ((i : Int) < (((texts c).length : Nat) : Int)) = false := decide_eq_false (by omega)
            refine pB [.b false] rfl ?_
            exact S_retc .bool rfl trivial rfl
      · have hb := hc.bad h
        subst hb
        have hne := i64_ne h
        have e2 : (((nmE l : Nat) : Int) == ((nmE l : Nat) : Int)) = true := by simp
        have e3 : (((nmE l : Nat) : Int) != ((nmE l : Nat) : Int)) = false := by simp
        refine pa [.v (.int .i64 (nmE l : Nat)), .v (.bool true), .b false, .b false, .b true, .v (.bool true), .b true, .b true] rfl ?_ ?_
        · (repeat' with_reducible apply AllP_cons) <;> try exact aC
          · exact ⟨_, hN, .cons (tgs_arg ..) (.nil _)⟩
          · exact begun_ok
          · exact begun_ok
        exact S_retc .bool rfl trivial rfl
    case _ =>
      obtain ⟨c, hc, h1, h2⟩ := hv
      cases h1
end Go.Proofs.YtnfalbdnkgaelaaDoor
end
section
set_option linter.unusedVariables false
set_option linter.unusedSimpArgs false
set_option maxRecDepth 20000
namespace Go.Proofs.YtnfalbdnkgaelaaDoor
open Go Go.Ab
theorem open_l {H : Type} {d : DataW H} {a : AV} (h : RdD Tryd.prog 23 d a) : ∃ l : List (List UInt8), a = .sl true false 1 (texts l) := by
  obtain ⟨ds, xs, rfl, hl, hm, hall, _⟩ := h.inv_sl Tryd.underlying23
  obtain ⟨ys, rfl, hy, hg⟩ := RdD.each AV.str (fun _ _ => True) hl hall (fun d x h => by
    obtain ⟨s, _, rfl, _⟩ := h.inv_str Tryd.underlying9
    exact ⟨s, rfl, trivial⟩)
  have hc : Tryd.prog.cellsOf 9 = 1 := by kernel_rfl
  exact ⟨ys, by rw [hc]; rfl⟩
end Go.Proofs.YtnfalbdnkgaelaaDoor
end
section
set_option linter.unusedVariables false
set_option linter.unusedSimpArgs false
set_option maxRecDepth 20000
namespace Go.Proofs.YtnfalbdnkgaelaaDoor
open Go Go.Ab
theorem open_tg {H : Type} {d : DataW H} {a : AV} (h : RdD Tryd.prog 44 d a) : ∃ f : Tg, a = tgA true f := by
  obtain ⟨ds, xs, rfl, rfl, hall⟩ := h.inv_st Tryd.underlying44
  obtain ⟨d0, ds, x0, xs, rfl, rfl, h0, hall⟩ := hall.cons
  obtain ⟨d1, ds, x1, xs, rfl, rfl, h1, hall⟩ := hall.cons
  obtain ⟨d2, ds, x2, xs, rfl, rfl, h2, hall⟩ := hall.cons
  obtain ⟨d3, ds, x3, xs, rfl, rfl, h3, hall⟩ := hall.cons
  obtain ⟨d4, ds, x4, xs, rfl, rfl, h4, hall⟩ := hall.cons
  obtain ⟨rfl, rfl⟩ := hall.nil
  obtain ⟨s0, rfl, rfl, _⟩ := h0.inv_str Tryd.underlying9
  obtain ⟨l1, rfl⟩ := open_l h1
  obtain ⟨l2, rfl⟩ := open_l h2
  obtain ⟨l3, rfl⟩ := open_l h3
  obtain ⟨l4, rfl⟩ := open_l h4
  exact ⟨⟨s0, l1, l2, l3, l4⟩, rfl⟩
theorem open_T {H : Type} {d : DataW H} {a : AV} (h : RdD Tryd.prog 22 d a) : ∃ l : List Tg, a = .sl true false 5 (tgs true l) := by
  obtain ⟨ds, xs, rfl, hl, hm, hall, _⟩ := h.inv_sl Tryd.underlying22
  obtain ⟨ys, rfl, hy, hg⟩ := RdD.each (tgA true) (fun _ _ => True) hl hall (fun d x h => by
    obtain ⟨f, rfl⟩ := open_tg h
    exact ⟨f, rfl, trivial⟩)
  have hc : Tryd.prog.cellsOf 44 = 5 := by kernel_rfl
  exact ⟨ys, by rw [hc]; rfl⟩
end Go.Proofs.YtnfalbdnkgaelaaDoor
end
