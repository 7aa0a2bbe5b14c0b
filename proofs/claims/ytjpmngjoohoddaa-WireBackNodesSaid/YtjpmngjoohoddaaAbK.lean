/-
  Literal slices, bytes of a text, made slices, iterators over texts; and all operations in one function.
-/
import Derived.Test.YtjpmngjoohoddaaAbJ
set_option linter.unusedVariables false
set_option linter.unusedSimpArgs false
namespace Go.Ab
open Go

/-- A new row that nobody will write, as a slice that bears its contents. -/
theorem Inv.newStable {cx : Cx} {r : Rl} {σ : Heap} {w : World} {sz cap : Nat} {fl : Bool} {xs : List AV} {ob : Obj} {c : Array Value} {t : TypeId} {f : Nat × Nat} (hi : Inv cx r σ w) (hob : ob = .cells c t f)
    (hsz : ∀ x ∈ xs, x.cells.length = sz) (hc : ∀ i (h : i < (xs.flatMap AV.cells).length), ∃ v, c[i]? = some v ∧ VRel r w v (xs.flatMap AV.cells)[i]) (hcap : xs.length ≤ cap) (hf : fl = true → cap = xs.length) :
    ∃ r', VRel r' (w.alloc ob) (.slice (some ⟨w.heap.size, 0, none⟩) xs.length cap) (.sl true fl sz xs) ∧ Inv cx r' σ (w.alloc ob) ∧ Ext r σ w r' σ (w.alloc ob) := by
  obtain ⟨h1, h2, g⟩ := hi.stable ob
  have hself := heap_alloc_self w ob
  subst hob
  have hcell : ∀ e (he : e < xs.length) j (hj : j < sz), ∃ v, (w.alloc (.cells c t f)).cell? ⟨w.heap.size, 0 + e * sz + j, none⟩ = some v ∧ ∀ hj' : j < (AV.cells (xs[e]'he)).length, VRel (r.add w.heap.size) (w.alloc (.cells c t f)) v ((AV.cells (xs[e]'he))[j]'hj') := by
    intro e he j hj
    have hk : e * sz + j < (xs.flatMap AV.cells).length := by
      rw [flatMap_cells_length hsz]
      have : e * sz + sz ≤ xs.length * sz := by rw [← Nat.succ_mul]; exact Nat.mul_le_mul_right _ he
      omega
    obtain ⟨v, q1, q2⟩ := hc _ hk
    refine ⟨v, by
      simp only [World.cell?, hself, Nat.zero_add]
      simpa using q1, fun hj' => ?_⟩
    have hg := flatMap_cells_get hsz e j he hj
    rw [List.getElem?_eq_getElem hk, List.getElem?_eq_getElem hj'] at hg
    simp only [Option.some.injEq] at hg
    rw [← hg]
    exact q2.mono g
  have hall : ∀ e j, ∃ v, ∀ (he : e < xs.length) (hj : j < sz), (w.alloc (.cells c t f)).cell? ⟨w.heap.size, 0 + e * sz + j, none⟩ = some v ∧ ∀ hj' : j < (AV.cells (xs[e]'he)).length, VRel (r.add w.heap.size) (w.alloc (.cells c t f)) v ((AV.cells (xs[e]'he))[j]'hj') := by
    intro e j
    by_cases h : e < xs.length ∧ j < sz
    · obtain ⟨v, hv⟩ := hcell e h.1 j h.2
      exact ⟨v, fun _ _ => hv⟩
    · exact ⟨undef, fun he hj => absurd ⟨he, hj⟩ h⟩
  refine ⟨r.add w.heap.size, .sl rfl hcap hf (.inr rfl) (fun _ => .inr rfl) hsz (fun e j => (hall e j).choose) (fun e he j hj => ((hall e j).choose_spec he hj).1) (fun e he j hj => ?_), h1, h2⟩
  have hj2 : j < sz := by rw [← hsz _ (List.getElem_mem he)]; exact hj
  exact ((hall e j).choose_spec he hj2).2 hj

/-- The parts of a literal slice, in their order. -/
def litParts (sz : Nat) : Nat → List (Nat × AV) → Option (List AV)
  | _, [] => some []
  | k, (i, x) :: r => bif Nat.beq i k && Nat.beq x.cells.length sz && (allOne x.cells && (!(Nat.beq sz 1) || x.one)) then
      match litParts sz (k + 1) r with
      | some l => some (x :: l)
      | none => none
    else none

theorem litParts_spec {sz : Nat} : ∀ (ps : List (Nat × AV)) (k : Nat) (xs : List AV), litParts sz k ps = some xs → xs = ps.map (·.2) ∧ (∀ i (h : i < ps.length), (ps[i]).1 = k + i) ∧ (∀ x ∈ xs, x.cells.length = sz ∧ (∀ y ∈ x.cells, y.one = true) ∧ (sz = 1 → x.one = true))
  | [], k, xs, h => by simp only [litParts, Option.some.injEq] at h; subst h; exact ⟨rfl, fun i h => absurd h (by simp), by simp⟩
  | (i, x) :: r, k, xs, h => by
    simp only [litParts] at h
    cases hb : (Nat.beq i k && Nat.beq x.cells.length sz && (allOne x.cells && (!(Nat.beq sz 1) || x.one))) with
    | false => rw [hb] at h; cases h
    | true =>
      rw [hb] at h
      simp only [cond_true] at h
      simp only [Bool.and_eq_true] at hb
      have e1 := Nat.eq_of_beq_eq_true hb.1.1
      have e2 := Nat.eq_of_beq_eq_true hb.1.2
      have e3 := allOne_mem hb.2.1
      have e4 : sz = 1 → x.one = true := fun h1 => by have := hb.2.2; subst h1; simpa using this
      split at h
      · rename_i l hl
        simp only [Option.some.injEq] at h
        subst h
        obtain ⟨h1, h2, h3⟩ := litParts_spec r (k + 1) l hl
        refine ⟨by rw [h1]; rfl, fun j hj => ?_, fun y hy => ?_⟩
        · rcases j with _ | j
          · simpa using e1
          · have := h2 j (by simpa using hj)
            simp only [List.getElem_cons_succ]; omega
        · rcases List.mem_cons.1 hy with rfl | h
          · exact ⟨e2, e3, e4⟩
          · exact h3 y h
      · cases h

theorem fill_lit {r : Rl} {w : World} {sz : Nat} : ∀ (qs : List (Nat × Value)) (ps : List (Nat × AV)) (k : Nat) (cs : Array Value) (xs : List AV), litParts sz k ps = some xs → ps.length = qs.length →
    (∀ i (h : i < ps.length) (h' : i < qs.length), (ps[i]).1 = (qs[i]).1 ∧ VRel r w (qs[i]).2 (ps[i]).2) → cs.size = (k + ps.length) * sz →
    ∃ cs', Instr.fill (fun i => some (i * sz, sz)) cs qs = some cs' ∧ cs'.size = cs.size ∧ (∀ i : Nat, i < k * sz → cs'[i]? = cs[i]?) ∧ (∀ i (h : i < (xs.flatMap AV.cells).length), ∃ v, cs'[k * sz + i]? = some v ∧ VRel r w v (xs.flatMap AV.cells)[i])
  | [], [], k, cs, xs, h, _, _, hs => by
    simp only [litParts, Option.some.injEq] at h
    subst h
    exact ⟨cs, rfl, rfl, fun _ _ => rfl, fun i h => absurd h (by simp)⟩
  | _ :: _, [], _, _, _, _, hl, _, _ => by simp at hl
  | [], _ :: _, _, _, _, _, hl, _, _ => by simp at hl
  | (j, v) :: qs, (i, x) :: ps, k, cs, xs, h, hl, hp, hs => by
    obtain ⟨s1, s2, s3⟩ := litParts_spec _ _ _ h
    have hi0 := s2 0 (by simp)
    simp only [List.getElem_cons_zero, Nat.add_zero] at hi0
    obtain ⟨h1, h2⟩ := hp 0 (by simp) (by simp)
    simp only [List.getElem_cons_zero] at h1 h2
    subst hi0
    subst h1
    simp only [litParts] at h
    cases hb : (Nat.beq i i && Nat.beq x.cells.length sz && (allOne x.cells && (!(Nat.beq sz 1) || x.one))) with
    | false => rw [hb] at h; cases h
    | true =>
      rw [hb] at h
      simp only [cond_true] at h
      split at h
      case h_2 => cases h
      rename_i l hl'
      simp only [Option.some.injEq] at h
      subst h
      obtain ⟨e1, e2, _⟩ := s3 x (by simp)
      have hxt : x.blank = false := AV.blank_of e2
      obtain ⟨k1, k2⟩ := h2.cells hxt
      simp only [List.length_cons] at hs hl
      have hfit : i * sz + v.cells.size ≤ cs.size := by
        rw [hs, k1, e1]
        have : (i + 1) * sz ≤ (i + (ps.length + 1)) * sz := Nat.mul_le_mul_right _ (by omega)
        rw [Nat.add_mul, Nat.one_mul] at this
        omega
      have hg := fold_zip v.cells (i * sz) cs hfit
      have hsize : (v.cells.zipIdx.foldl (fun cs (c, j) => cs.setIfInBounds (i * sz + j) c) cs).size = cs.size := by
        rw [← Array.foldl_toList]
        exact fold_size (i * sz) v.cells.zipIdx.toList cs
      obtain ⟨cs', m1, m2, m3, m4⟩ := fill_lit qs ps (i + 1) (v.cells.zipIdx.foldl (fun cs (c, j) => cs.setIfInBounds (i * sz + j) c) cs) l hl' (by omega) (fun a ha ha' => by
        have := hp (a + 1) (by simp; omega) (by simp; omega)
        simpa using this) (by rw [hsize, hs]; congr 1; omega)
      refine ⟨cs', ?_, by rw [m2, hsize], fun a ha => ?_, fun a ha => ?_⟩
      · rw [Instr.fill]
        simp only
        rw [if_neg (by simp; omega)]
        exact m1
      · rw [m3 a (by rw [Nat.add_mul]; omega), hg, if_neg (by omega)]
      · simp only [List.flatMap_cons] at ha ⊢
        by_cases hax : a < x.cells.length
        · obtain ⟨u, n1, n2⟩ := k2 a hax
          refine ⟨u, ?_, ?_⟩
          · rw [m3 _ (by rw [Nat.add_mul]; omega), hg, if_pos (by omega)]
            rw [← n1]; congr 1; omega
          · rw [List.getElem_append_left hax]; exact n2
        · rw [List.length_append] at ha
          obtain ⟨u, n1, n2⟩ := m4 (a - x.cells.length) (by omega)
          refine ⟨u, ?_, ?_⟩
          · rw [← n1]; congr 1; rw [Nat.add_mul]; omega
          · rw [List.getElem_append_right (by omega)]; exact n2

def memN (t : Nat) : List Nat → Bool
  | [] => false
  | s :: r => Nat.beq t s || memN t r
def inM (d : Option Nat) (M : List Nat) : Bool := match d with | some t => memN t M | none => false

def aLit (P : Program) (mu : Bool) (t : TypeId) (len : Nat) (ps : List (Nat × AV)) (σ : Heap) : Option (AV × Heap) :=
  match elemInfo P t with
  | some (e, sz, _) => bif Nat.beq ps.length len && Nat.ble (len * sz) 16777216 then
      match litParts sz 0 ps with
      | some xs => match mu with
        | false => some (.sl true true sz xs, σ)
        | true => match allocH σ (.cells (flatA sz xs) ⟨false, tyU8 P e⟩) with
          | (id, ver, σ') => some (.ms id ver 0 len sz true, σ')
      | none => none
    else none
  | none => none

theorem aLit_run {cx : Cx} {r : Rl} {σ σ' : Heap} {w : World} {mu : Bool} {t : TypeId} {len : Nat} {ps : List (Nat × AV)} {qs : Array (Nat × Value)} {v : AV} (hi : Inv cx r σ w) (h : aLit cx.P mu t len ps σ = some (v, σ'))
    (hl : ps.length = qs.size) (hp : ∀ i (h : i < ps.length) (h' : i < qs.toList.length), (ps[i]).1 = (qs.toList[i]).1 ∧ VRel r w (qs.toList[i]).2 (ps[i]).2) :
    ∃ v' w' r', (Instr.buildSlice t len qs).run cx.P w = .ok v' w' ∧ VRel r' w' v' v ∧ Inv cx r' σ' w' ∧ Ext r σ w r' σ' w' := by
  unfold aLit at h
  split at h
  case h_2 => cases h
  rename_i e sz by_ hel
  obtain ⟨inf, z, hu, hinfo, hz, hz1, hz2, hz3⟩ := elemInfo_some hel
  cases hb : (Nat.beq ps.length len && Nat.ble (len * sz) 16777216) with
  | false => rw [hb] at h; cases h
  | true =>
  rw [hb] at h
  simp only [cond_true] at h
  simp only [Bool.and_eq_true] at hb
  have e1 := Nat.eq_of_beq_eq_true hb.1
  have e2 := Nat.le_of_ble_eq_true hb.2
  split at h
  case h_2 => cases h
  rename_i xs hlit
  obtain ⟨s1, s2, s3⟩ := litParts_spec _ _ _ hlit
  have hxl : xs.length = len := by rw [s1, List.length_map]; exact e1
  have hszo : szOf cx.P e = some sz := by simp [szOf, hinfo, hz2]
  -- the cells that are made
  have key : ∃ c : Array Value, (Instr.buildSlice t len qs).run cx.P w = .ok (.slice (some ⟨w.heap.size, 0, none⟩) len len) (w.alloc (.cells c e)) ∧ c.size = len * sz ∧
      (∀ i (h : i < (xs.flatMap AV.cells).length), ∃ v, c[i]? = some v ∧ VRel r w v (xs.flatMap AV.cells)[i]) := by
    have hlim : ¬ len * sz > 2 ^ 24 := by simp; omega
    by_cases h0 : len * sz = 0
    · obtain ⟨c, m1, m2, m3, m4⟩ := fill_lit (r := r) (w := w) qs.toList ps 0 ((Array.range (len * sz)).map ((#[] : Array Value)[· % (#[] : Array Value).size]!)) xs hlit (by simpa using hl) hp (by simp; rw [e1])
      refine ⟨c, ?_, by rw [m2]; simp, fun i hi => by
        obtain ⟨v, n1, n2⟩ := m4 i hi
        exact ⟨v, by simpa using n1, n2⟩⟩
      simp only [Instr.buildSlice, Sem.run_bind, run_underlying hu, Result.andThen_ok, run_sizeOf' hszo, hlim, if_false, Sem.run_ite, h0, if_true, Sem.run_pure]
      rw [h0] at m1
      simp only [m1, Sem.run_bind, newRow, run_newObj, Sem.run_pure, Result.andThen_ok, World.alloc_eq]
      rw [if_neg (by decide)]
    · obtain ⟨c, m1, m2, m3, m4⟩ := fill_lit (r := r) (w := w) qs.toList ps 0 ((Array.range (len * sz)).map (z.cells[· % z.cells.size]!)) xs hlit (by simpa using hl) hp (by simp; rw [e1])
      refine ⟨c, ?_, by rw [m2]; simp, fun i hi => by
        obtain ⟨v, n1, n2⟩ := m4 i hi
        exact ⟨v, by simpa using n1, n2⟩⟩
      simp only [Instr.buildSlice, Sem.run_bind, run_underlying hu, Result.andThen_ok, run_sizeOf' hszo, hlim, if_false, Sem.run_ite, h0, run_zeroValue hinfo hz, Sem.run_pure, m1, newRow, run_newObj, World.alloc_eq]
  obtain ⟨c, hbs, hcs, hcr⟩ := key
  split at h
  · simp only [Option.some.injEq, Prod.mk.injEq] at h; obtain ⟨rfl, rfl⟩ := h
    obtain ⟨r', k1, k2, k3⟩ := hi.newStable (ob := .cells c e) (fl := true) (cap := len) (sz := sz) rfl (fun x hx => (s3 x hx).1) hcr (by omega) (fun _ => hxl.symm)
    rw [hxl] at k1
    exact ⟨_, _, r', hbs, k1, k2, k3⟩
  · generalize hal : allocH σ _ = al at h
    obtain ⟨id, ver, σ1⟩ := al
    simp only [Option.some.injEq, Prod.mk.injEq] at h; obtain ⟨rfl, rfl⟩ := h
    have hone : ∀ y ∈ xs.flatMap AV.cells, y.one = true := by
      intro y hy
      obtain ⟨x, hx, hy'⟩ := List.mem_flatMap.1 hy
      exact (s3 x hx).2.1 y hy'
    have hfl : flatA sz xs = xs.flatMap AV.cells := by
      unfold flatA
      split
      · exact (flatMap_cells_one (fun x hx => (s3 x hx).2.2 rfl)).symm
      · rfl
    rw [hfl] at hal
    obtain ⟨r', k1, k2, k3, k4, k5⟩ := hi.newCells (c := c) (t := e) hal hcr hone (fun T h => tyU8_eq h)
    refine ⟨_, _, r', hbs, ?_, k1, k2⟩
    have hv := VRel.ms (r := r') (w := w.alloc (.cells c e)) (id := id) (ver := ver) (b := w.heap.size) (o := 0) (off := 0) (n := len) (cap := len) (sz := sz) (full := true) k3
      ⟨c, e, _, heap_alloc_self w _, by omega⟩ (Nat.le_refl _) (fun _ => rfl)
    exact hv

end Go.Ab
