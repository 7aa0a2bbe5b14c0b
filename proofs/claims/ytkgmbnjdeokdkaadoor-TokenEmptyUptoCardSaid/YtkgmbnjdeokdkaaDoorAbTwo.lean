/-
  Literal slices, bytes of a text, made slices, iterators over texts; and all operations in one function.
  The bytes of a text; made slices; new variables; iterators over texts; all operations in one function.
  copy; and all operations in one function.
  The machine: a state is what is left to do, a frame and a heap. 'go' runs it as far as no test, no call and no loop stands in the way.
  The evaluator, and its soundness: 'go'.
  Calls: what a function does, said of abstract values; functions that are handed nothing to change.
  Pure functions: how they are proved, and how they are called. What stops the machine: indexes, loads of elements, panics, the next letter of a text.
  Loops with a state, tests, and the arithmetic of whole numbers.
  Bits and shifts of whole numbers without a sign.
  Regions whose order is open: operations that leave the heap alone may come in any order that their edges allow; the others stand behind them.
  What a library's texts do with addresses: unsafe pointers, strings that share bytes; a box that is let go.
-/
import Derived.Test.YtkgmbnjdeokdkaaDoorAbOne
import Derived.IntWalk
import Derived.Orders
import Derived.Lib.Builder
import Derived.Laws.Externs
import Derived.Lib.UnsafeStr
section
set_option linter.unusedVariables false
set_option linter.unusedSimpArgs false
namespace Go.Ab
open Go

/-- A new row that nobody will write, as a slice that bears its contents. -/
theorem Inv.newStable {cx : Cx} {r : Rl} {σ : Heap} {w : World} {sz cap : Nat} {fl : Bool} {xs : List AV} {ob : Obj} {c : Array Value} {t : TypeId} {f : Nat × Nat} (hi : Inv cx r σ w) (hob : ob = .cells c t f)
    (hsz : ∀ x ∈ xs, x.cells.length = sz) (hc : ∀ i (h : i < (xs.flatMap AV.cells).length), ∃ v, c[i]? = some v ∧ VRel r w v (xs.flatMap AV.cells)[i]) (hcap : xs.length ≤ cap) (hf : fl = true → cap = xs.length) :
    ∃ r', VRel r' (w.alloc ob) (.slice (some ⟨w.heap.size, 0, none⟩) xs.length cap) (.sl true fl sz xs) ∧ Inv cx r' σ (w.alloc ob) ∧ Ext r σ w r' σ (w.alloc ob) := by
  obtain ⟨h1, h2, g⟩ := hi.stable ob
  have hself := heap_alloc_self w ob
  subst hob
  have hcell : ∀ e (he : e < xs.length) j (hj : j < sz), ∃ v, (w.alloc (.cells c t f)).cell? ⟨w.heap.size, 0 + e * sz + j, none⟩ = some v ∧ ∀ hj' : j < (AV.cells (xs[e]'he)).length, VRel (r.add w.heap.size) (w.alloc (.cells c t f)) v ((AV.cells (xs[e]'he))[j]'hj') := by
    intro e he j hj
    have hk : e * sz + j < (xs.flatMap AV.cells).length := by
      rw [flatMap_cells_length hsz]
      have : e * sz + sz ≤ xs.length * sz := by rw [← Nat.succ_mul]; exact Nat.mul_le_mul_right _ he
      omega
    obtain ⟨v, q1, q2⟩ := hc _ hk
    refine ⟨v, by
      simp only [World.cell?, hself, Nat.zero_add]
      simpa using q1, fun hj' => ?_⟩
    have hg := flatMap_cells_get hsz e j he hj
    rw [List.getElem?_eq_getElem hk, List.getElem?_eq_getElem hj'] at hg
    simp only [Option.some.injEq] at hg
    rw [← hg]
    exact q2.mono g
  have hall : ∀ e j, ∃ v, ∀ (he : e < xs.length) (hj : j < sz), (w.alloc (.cells c t f)).cell? ⟨w.heap.size, 0 + e * sz + j, none⟩ = some v ∧ ∀ hj' : j < (AV.cells (xs[e]'he)).length, VRel (r.add w.heap.size) (w.alloc (.cells c t f)) v ((AV.cells (xs[e]'he))[j]'hj') := by
    intro e j
    by_cases h : e < xs.length ∧ j < sz
    · obtain ⟨v, hv⟩ := hcell e h.1 j h.2
      exact ⟨v, fun _ _ => hv⟩
    · exact ⟨undef, fun he hj => absurd ⟨he, hj⟩ h⟩
  refine ⟨r.add w.heap.size, .sl rfl hcap hf (.inr rfl) (fun _ => .inr rfl) hsz (fun e j => (hall e j).choose) (fun e he j hj => ((hall e j).choose_spec he hj).1) (fun e he j hj => ?_), h1, h2⟩
  have hj2 : j < sz := by rw [← hsz _ (List.getElem_mem he)]; exact hj
  exact ((hall e j).choose_spec he hj2).2 hj

/-- The parts of a literal slice, in their order. -/
def litParts (sz : Nat) : Nat → List (Nat × AV) → Option (List AV)
  | _, [] => some []
  | k, (i, x) :: r => bif Nat.beq i k && Nat.beq x.cells.length sz && (allOne x.cells && (!(Nat.beq sz 1) || x.one)) then
      match litParts sz (k + 1) r with
      | some l => some (x :: l)
      | none => none
    else none

theorem litParts_spec {sz : Nat} : ∀ (ps : List (Nat × AV)) (k : Nat) (xs : List AV), litParts sz k ps = some xs → xs = ps.map (·.2) ∧ (∀ i (h : i < ps.length), (ps[i]).1 = k + i) ∧ (∀ x ∈ xs, x.cells.length = sz ∧ (∀ y ∈ x.cells, y.one = true) ∧ (sz = 1 → x.one = true))
  | [], k, xs, h => by simp only [litParts, Option.some.injEq] at h; subst h; exact ⟨rfl, fun i h => absurd h (by simp), by simp⟩
  | (i, x) :: r, k, xs, h => by
    simp only [litParts] at h
    cases hb : (Nat.beq i k && Nat.beq x.cells.length sz && (allOne x.cells && (!(Nat.beq sz 1) || x.one))) with
    | false => rw [hb] at h; cases h
    | true =>
      rw [hb] at h
      simp only [cond_true] at h
      simp only [Bool.and_eq_true] at hb
      have e1 := Nat.eq_of_beq_eq_true hb.1.1
      have e2 := Nat.eq_of_beq_eq_true hb.1.2
      have e3 := allOne_mem hb.2.1
      have e4 : sz = 1 → x.one = true := fun h1 => by have := hb.2.2; subst h1; simpa using this
      split at h
      · rename_i l hl
        simp only [Option.some.injEq] at h
        subst h
        obtain ⟨h1, h2, h3⟩ := litParts_spec r (k + 1) l hl
        refine ⟨by rw [h1]; rfl, fun j hj => ?_, fun y hy => ?_⟩
        · rcases j with _ | j
          · simpa using e1
          · have := h2 j (by simpa using hj)
            simp only [List.getElem_cons_succ]; omega
        · rcases List.mem_cons.1 hy with rfl | h
          · exact ⟨e2, e3, e4⟩
          · exact h3 y h
      · cases h

theorem fill_lit {r : Rl} {w : World} {sz : Nat} : ∀ (qs : List (Nat × Value)) (ps : List (Nat × AV)) (k : Nat) (cs : Array Value) (xs : List AV), litParts sz k ps = some xs → ps.length = qs.length →
    (∀ i (h : i < ps.length) (h' : i < qs.length), (ps[i]).1 = (qs[i]).1 ∧ VRel r w (qs[i]).2 (ps[i]).2) → cs.size = (k + ps.length) * sz →
    ∃ cs', Instr.fill (fun i => some (i * sz, sz)) cs qs = some cs' ∧ cs'.size = cs.size ∧ (∀ i : Nat, i < k * sz → cs'[i]? = cs[i]?) ∧ (∀ i (h : i < (xs.flatMap AV.cells).length), ∃ v, cs'[k * sz + i]? = some v ∧ VRel r w v (xs.flatMap AV.cells)[i])
  | [], [], k, cs, xs, h, _, _, hs => by
    simp only [litParts, Option.some.injEq] at h
    subst h
    exact ⟨cs, rfl, rfl, fun _ _ => rfl, fun i h => absurd h (by simp)⟩
  | _ :: _, [], _, _, _, _, hl, _, _ => by simp at hl
  | [], _ :: _, _, _, _, _, hl, _, _ => by simp at hl
  | (j, v) :: qs, (i, x) :: ps, k, cs, xs, h, hl, hp, hs => by
    obtain ⟨s1, s2, s3⟩ := litParts_spec _ _ _ h
    have hi0 := s2 0 (by simp)
    simp only [List.getElem_cons_zero, Nat.add_zero] at hi0
    obtain ⟨h1, h2⟩ := hp 0 (by simp) (by simp)
    simp only [List.getElem_cons_zero] at h1 h2
    subst hi0
    subst h1
    simp only [litParts] at h
    cases hb : (Nat.beq i i && Nat.beq x.cells.length sz && (allOne x.cells && (!(Nat.beq sz 1) || x.one))) with
    | false => rw [hb] at h; cases h
    | true =>
      rw [hb] at h
      simp only [cond_true] at h
      split at h
      case h_2 => cases h
      rename_i l hl'
      simp only [Option.some.injEq] at h
      subst h
      obtain ⟨e1, e2, _⟩ := s3 x (by simp)
      have hxt : x.blank = false := AV.blank_of e2
      obtain ⟨k1, k2⟩ := h2.cells hxt
      simp only [List.length_cons] at hs hl
      have hfit : i * sz + v.cells.size ≤ cs.size := by
        rw [hs, k1, e1]
        have : (i + 1) * sz ≤ (i + (ps.length + 1)) * sz := Nat.mul_le_mul_right _ (by omega)
        rw [Nat.add_mul, Nat.one_mul] at this
        omega
      have hg := fold_zip v.cells (i * sz) cs hfit
      have hsize : (v.cells.zipIdx.foldl (fun cs (c, j) => cs.setIfInBounds (i * sz + j) c) cs).size = cs.size := by
        rw [← Array.foldl_toList]
        exact fold_size (i * sz) v.cells.zipIdx.toList cs
      obtain ⟨cs', m1, m2, m3, m4⟩ := fill_lit qs ps (i + 1) (v.cells.zipIdx.foldl (fun cs (c, j) => cs.setIfInBounds (i * sz + j) c) cs) l hl' (by omega) (fun a ha ha' => by
        have := hp (a + 1) (by simp; omega) (by simp; omega)
        simpa using this) (by rw [hsize, hs]; congr 1; omega)
      refine ⟨cs', ?_, by rw [m2, hsize], fun a ha => ?_, fun a ha => ?_⟩
      · rw [Instr.fill]
        simp only
        rw [if_neg (by simp; omega)]
        exact m1
      · rw [m3 a (by rw [Nat.add_mul]; omega), hg, if_neg (by omega)]
      · simp only [List.flatMap_cons] at ha ⊢
        by_cases hax : a < x.cells.length
        · obtain ⟨u, n1, n2⟩ := k2 a hax
          refine ⟨u, ?_, ?_⟩
          · rw [m3 _ (by rw [Nat.add_mul]; omega), hg, if_pos (by omega)]
            rw [← n1]; congr 1; omega
          · rw [List.getElem_append_left hax]; exact n2
        · rw [List.length_append] at ha
          obtain ⟨u, n1, n2⟩ := m4 (a - x.cells.length) (by omega)
          refine ⟨u, ?_, ?_⟩
          · rw [← n1]; congr 1; rw [Nat.add_mul]; omega
          · rw [List.getElem_append_right (by omega)]; exact n2

def memN (t : Nat) : List Nat → Bool
  | [] => false
  | s :: r => Nat.beq t s || memN t r
def inM (d : Option Nat) (M : List Nat) : Bool := match d with | some t => memN t M | none => false

def aLit (P : Program) (mu : Bool) (t : TypeId) (len : Nat) (ps : List (Nat × AV)) (σ : Heap) : Option (AV × Heap) :=
  match elemInfo P t with
  | some (e, sz, _) => bif Nat.beq ps.length len && Nat.ble (len * sz) 16777216 then
      match litParts sz 0 ps with
      | some xs => match mu with
        | false => some (.sl true true sz xs, σ)
        | true => match allocH σ (.cells (flatA sz xs) ⟨false, tyU8 P e⟩) with
          | (id, ver, σ') => some (.ms id ver 0 len sz true, σ')
      | none => none
    else none
  | none => none

theorem aLit_run {cx : Cx} {r : Rl} {σ σ' : Heap} {w : World} {mu : Bool} {t : TypeId} {len : Nat} {ps : List (Nat × AV)} {qs : Array (Nat × Value)} {v : AV} (hi : Inv cx r σ w) (h : aLit cx.P mu t len ps σ = some (v, σ'))
    (hl : ps.length = qs.size) (hp : ∀ i (h : i < ps.length) (h' : i < qs.toList.length), (ps[i]).1 = (qs.toList[i]).1 ∧ VRel r w (qs.toList[i]).2 (ps[i]).2) :
    ∃ v' w' r', (Instr.buildSlice t len qs).run cx.P w = .ok v' w' ∧ VRel r' w' v' v ∧ Inv cx r' σ' w' ∧ Ext r σ w r' σ' w' := by
  unfold aLit at h
  split at h
  case h_2 => cases h
  rename_i e sz by_ hel
  obtain ⟨inf, z, hu, hinfo, hz, hz1, hz2, hz3⟩ := elemInfo_some hel
  cases hb : (Nat.beq ps.length len && Nat.ble (len * sz) 16777216) with
  | false => rw [hb] at h; cases h
  | true =>
  rw [hb] at h
  simp only [cond_true] at h
  simp only [Bool.and_eq_true] at hb
  have e1 := Nat.eq_of_beq_eq_true hb.1
  have e2 := Nat.le_of_ble_eq_true hb.2
  split at h
  case h_2 => cases h
  rename_i xs hlit
  obtain ⟨s1, s2, s3⟩ := litParts_spec _ _ _ hlit
  have hxl : xs.length = len := by rw [s1, List.length_map]; exact e1
  have hszo : szOf cx.P e = some sz := by simp [szOf, hinfo, hz2]
  -- the cells that are made
  have key : ∃ c : Array Value, (Instr.buildSlice t len qs).run cx.P w = .ok (.slice (some ⟨w.heap.size, 0, none⟩) len len) (w.alloc (.cells c e)) ∧ c.size = len * sz ∧
      (∀ i (h : i < (xs.flatMap AV.cells).length), ∃ v, c[i]? = some v ∧ VRel r w v (xs.flatMap AV.cells)[i]) := by
    have hlim : ¬ len * sz > 2 ^ 24 := by simp; omega
    by_cases h0 : len * sz = 0
    · obtain ⟨c, m1, m2, m3, m4⟩ := fill_lit (r := r) (w := w) qs.toList ps 0 ((Array.range (len * sz)).map ((#[] : Array Value)[· % (#[] : Array Value).size]!)) xs hlit (by simpa using hl) hp (by simp; rw [e1])
      refine ⟨c, ?_, by rw [m2]; simp, fun i hi => by
        obtain ⟨v, n1, n2⟩ := m4 i hi
        exact ⟨v, by simpa using n1, n2⟩⟩
      simp only [Instr.buildSlice, Sem.run_bind, run_underlying hu, Result.andThen_ok, run_sizeOf' hszo, hlim, if_false, Sem.run_ite, h0, if_true, Sem.run_pure]
      rw [h0] at m1
      simp only [m1, Sem.run_bind, newRow, run_newObj, Sem.run_pure, Result.andThen_ok, World.alloc_eq]
      rw [if_neg (by decide)]
    · obtain ⟨c, m1, m2, m3, m4⟩ := fill_lit (r := r) (w := w) qs.toList ps 0 ((Array.range (len * sz)).map (z.cells[· % z.cells.size]!)) xs hlit (by simpa using hl) hp (by simp; rw [e1])
      refine ⟨c, ?_, by rw [m2]; simp, fun i hi => by
        obtain ⟨v, n1, n2⟩ := m4 i hi
        exact ⟨v, by simpa using n1, n2⟩⟩
      simp only [Instr.buildSlice, Sem.run_bind, run_underlying hu, Result.andThen_ok, run_sizeOf' hszo, hlim, if_false, Sem.run_ite, h0, run_zeroValue hinfo hz, Sem.run_pure, m1, newRow, run_newObj, World.alloc_eq]
  obtain ⟨c, hbs, hcs, hcr⟩ := key
  split at h
  · simp only [Option.some.injEq, Prod.mk.injEq] at h; obtain ⟨rfl, rfl⟩ := h
    obtain ⟨r', k1, k2, k3⟩ := hi.newStable (ob := .cells c e) (fl := true) (cap := len) (sz := sz) rfl (fun x hx => (s3 x hx).1) hcr (by omega) (fun _ => hxl.symm)
    rw [hxl] at k1
    exact ⟨_, _, r', hbs, k1, k2, k3⟩
  · generalize hal : allocH σ _ = al at h
    obtain ⟨id, ver, σ1⟩ := al
    simp only [Option.some.injEq, Prod.mk.injEq] at h; obtain ⟨rfl, rfl⟩ := h
    have hone : ∀ y ∈ xs.flatMap AV.cells, y.one = true := by
      intro y hy
      obtain ⟨x, hx, hy'⟩ := List.mem_flatMap.1 hy
      exact (s3 x hx).2.1 y hy'
    have hfl : flatA sz xs = xs.flatMap AV.cells := by
      unfold flatA
      split
      · exact (flatMap_cells_one (fun x hx => (s3 x hx).2.2 rfl)).symm
      · rfl
    rw [hfl] at hal
    obtain ⟨r', k1, k2, k3, k4, k5⟩ := hi.newCells (c := c) (t := e) hal hcr hone (fun T h => tyU8_eq h)
    refine ⟨_, _, r', hbs, ?_, k1, k2⟩
    have hv := VRel.ms (r := r') (w := w.alloc (.cells c e)) (id := id) (ver := ver) (b := w.heap.size) (o := 0) (off := 0) (n := len) (cap := len) (sz := sz) (full := true) k3
      ⟨c, e, _, heap_alloc_self w _, by omega⟩ (Nat.le_refl _) (fun _ => rfl)
    exact hv

end Go.Ab
end

section
set_option linter.unusedVariables false
set_option linter.unusedSimpArgs false
namespace Go.Ab
open Go

theorem freeze_alloc (w : World) (c : Array Value) (t : TypeId) (k : Nat) : (w.alloc (.cells c t)).freeze ⟨w.heap.size, k, none⟩ 1 = w.alloc (.cells c t (k, k + 1)) := by
  unfold World.freeze
  rw [if_neg (by decide)]
  show ({ w with heap := (w.heap.push (.cells c t)).modify w.heap.size _ } : World) = { w with heap := w.heap.push (.cells c t (k, k + 1)) }
  congr 1
  apply Array.ext
  · simp
  · intro i h1 h2
    simp only [Array.size_modify, Array.size_push] at h1
    rw [Array.getElem_modify]
    by_cases hi : w.heap.size = i
    · subst hi
      simp
    · rw [if_neg hi]
      rw [Array.getElem_push_lt (by omega), Array.getElem_push_lt (by omega)]

def aBytes (P : Program) (mu : Bool) (src dst : TypeId) (x : AV) (σ : Heap) : Option (AV × Heap) :=
  match P.underlying src, P.underlying dst, x with
  | some .string, some (.slice e), .str s => bif isU8 P e then
      match mu with
      | false => some (.sl true false 1 (s.map byteAV), σ)
      | true => match allocH σ (.cells (s.map byteAV) ⟨false, tyU8 P e⟩) with
        | (id, ver, σ') => some (.ms id ver 0 s.length 1 false, σ')
    else none
  | _, _, _ => none

theorem aBytes_run {cx : Cx} {r : Rl} {σ σ' : Heap} {w : World} {mu : Bool} {src dst : TypeId} {x : Value} {x' v : AV} (hi : Inv cx r σ w) (h : aBytes cx.P mu src dst x' σ = some (v, σ')) (hx : VRel r w x x') :
    ∃ v' w' r', (convert src dst x).run cx.P w = .ok v' w' ∧ VRel r' w' v' v ∧ Inv cx r' σ' w' ∧ Ext r σ w r' σ' w' := by
  unfold aBytes at h
  split at h
  case h_2 => cases h
  rename_i e s h1 h2
  cases hu : isU8 cx.P e with
  | false => rw [hu] at h; cases h
  | true =>
  rw [hu] at h
  simp only [cond_true] at h
  have he := isU8_eq hu
  cases hx with
  | str hs =>
  rename_i u
  subst hs
  have hsz : u.size = u.data.toList.length := by rw [Array.length_toList]; rfl
  have hge := grownCap_ge w u.size 0 e
  have hrun : (convert src dst (.string u)).run cx.P w = .ok (.slice (some ⟨w.heap.size, 0, none⟩) u.size (grownCap w u.size 0 e))
      (w.drew.alloc (.cells (u.data.map (fun b => Value.int .u8 b.toNat) ++ Array.replicate (grownCap w u.size 0 e - u.size) (.int .u8 0)) e
        (((u.data.map (fun b => Value.int .u8 b.toNat) ++ Array.replicate (grownCap w u.size 0 e - u.size) (.int .u8 0)) : Array Value).size, ((u.data.map (fun b => Value.int .u8 b.toNat) ++ Array.replicate (grownCap w u.size 0 e - u.size) (.int .u8 0)) : Array Value).size + 1))) := by
    rw [← freeze_alloc]
    have hshape : ∀ c : Array Value, (w.drew.alloc (.cells c e)).shape? w.heap.size = some (e, c.size) := by
      intro c
      have := heap_alloc_self w.drew (.cells c e)
      simp only [World.size_drew] at this
      simp only [World.shape?, this]
    have hgc : grownCap w u.size 0 e = (Question.appendCap u.size 0 e).cut (w.tape w.drawn (.appendCap u.size 0 e)) := rfl
    simp only [convert, Sem.run_bind, run_underlying h1, run_underlying h2, run_underlying he, Result.andThen_ok, Conv.stringToBytes, run_choose, Question.forced, Bool.false_eq_true, if_false, newRow, run_newObj, Sem.run_pure, World.drew_eq, World.alloc_eq, markStringish, run_shape, ← hgc]
    simp only [World.size_drew, hshape, run_freeze, Result.andThen_ok]
  have hcells : ∀ i (h : i < (u.data.toList.map byteAV).length), ∃ v, ((u.data.map (fun b => Value.int .u8 b.toNat) ++ Array.replicate (grownCap w u.size 0 e - u.size) (.int .u8 0)) : Array Value)[i]? = some v ∧ VRel r w v (u.data.toList.map byteAV)[i] := by
    intro i hil
    simp only [List.length_map, Array.length_toList] at hil
    refine ⟨.int .u8 (u.data[i]).toNat, ?_, ?_⟩
    · rw [Array.getElem?_append_left (by simpa using hil)]
      rw [Array.getElem?_map, Array.getElem?_eq_getElem hil]
      rfl
    · simp only [List.getElem_map, Array.getElem_toList, byteAV]
      exact .int
  have hone : ∀ y ∈ u.data.toList.map byteAV, y.one = true := by
    intro y hy
    obtain ⟨b, _, rfl⟩ := List.mem_map.1 hy
    rfl
  obtain ⟨hid, hed⟩ := hi.heap_eq (w' := w.drew) rfl rfl rfl rfl
  split at h
  · simp only [Option.some.injEq, Prod.mk.injEq] at h; obtain ⟨rfl, rfl⟩ := h
    have hfm : (u.data.toList.map byteAV).flatMap AV.cells = u.data.toList.map byteAV := flatMap_cells_one hone
    obtain ⟨r', k1, k2, k3⟩ := hid.newStable (cap := grownCap w u.size 0 e) (fl := false) (sz := 1) (xs := u.data.toList.map byteAV) rfl (fun x hx => by
      obtain ⟨b, _, rfl⟩ := List.mem_map.1 hx
      rfl) (by
        rw [hfm]
        intro i hil
        obtain ⟨v, q1, q2⟩ := hcells i hil
        exact ⟨v, q1, q2.mono (hed.grow hi)⟩) (by rw [List.length_map, ← hsz]; exact hge) (fun h => by cases h)
    refine ⟨_, _, r', hrun, ?_, k2, hed.trans k3⟩
    rw [List.length_map, ← hsz] at k1
    exact k1
  · generalize hal : allocH σ _ = al at h
    obtain ⟨id, ver, σ1⟩ := al
    simp only [Option.some.injEq, Prod.mk.injEq] at h; obtain ⟨rfl, rfl⟩ := h
    have hself := heap_alloc_self w.drew (.cells (u.data.map (fun b => Value.int .u8 b.toNat) ++ Array.replicate (grownCap w u.size 0 e - u.size) (.int .u8 0)) e
        (((u.data.map (fun b => Value.int .u8 b.toNat) ++ Array.replicate (grownCap w u.size 0 e - u.size) (.int .u8 0)) : Array Value).size, ((u.data.map (fun b => Value.int .u8 b.toNat) ++ Array.replicate (grownCap w u.size 0 e - u.size) (.int .u8 0)) : Array Value).size + 1))
    obtain ⟨k1, k2⟩ := hid.new hal (fun g => ⟨_, e, _, _, hself, fun i hil => by
      obtain ⟨v, q1, q2⟩ := hcells i hil
      exact ⟨v, by rw [Nat.zero_add]; exact q1, (q2.mono (hed.grow hi)).mono g⟩, hone, fun i a b c => by omega, fun T h => ⟨tyU8_eq h, rfl⟩⟩)
    refine ⟨_, _, _, hrun, ?_, k1, hed.trans k2⟩
    have hv := VRel.ms (r := r.bind id ver (w.heap.size, 0)) (w := _) (id := id) (ver := ver) (b := w.heap.size) (o := 0) (off := 0) (n := u.data.toList.length) (cap := grownCap w u.size 0 e) (sz := 1) (full := false)
      (by simp [Rl.bind]) ⟨_, e, _, hself, by
        simp only [Array.size_append, Array.size_map, Array.size_replicate, Nat.mul_one, Nat.zero_add]
        have : u.data.size = u.size := rfl
        omega⟩ (by rw [← hsz]; exact hge) (fun h => by cases h)
    rw [← hsz] at hv ⊢
    exact hv

def repA (n : Nat) (z : List AV) : List AV :=
  match z with
  | [x] => List.replicate n x
  | z => (List.replicate n z).flatten

theorem repA_length (n : Nat) (z : List AV) : (repA n z).length = n * z.length := by
  unfold repA
  split
  · simp
  · simp

theorem flatten_get (z : List AV) (hz : 0 < z.length) : ∀ (n i : Nat) (h : i < ((List.replicate n z).flatten).length), ((List.replicate n z).flatten)[i] = z[i % z.length]'(Nat.mod_lt _ hz)
  | 0, i, h => by simp at h
  | n + 1, i, h => by
    have he : (List.replicate (n + 1) z).flatten = z ++ (List.replicate n z).flatten := by rw [List.replicate_succ, List.flatten_cons]
    have h' : i < (z ++ (List.replicate n z).flatten).length := by rw [← he]; exact h
    have h1 : ((List.replicate (n + 1) z).flatten)[i] = (z ++ (List.replicate n z).flatten)[i]'h' := by simp only [he]
    rw [h1]
    by_cases hi : i < z.length
    · rw [List.getElem_append_left hi]
      congr 1
      exact (Nat.mod_eq_of_lt hi).symm
    · rw [List.getElem_append_right (by omega), flatten_get z hz n (i - z.length) (by rw [List.length_append] at h'; omega)]
      congr 1
      exact (Nat.mod_eq_sub_mod (by omega)).symm

theorem repA_get (n : Nat) (z : List AV) (i : Nat) (h : i < (repA n z).length) (hz : 0 < z.length) : (repA n z)[i] = z[i % z.length]'(Nat.mod_lt _ hz) := by
  unfold repA at *
  split at h
  · simp [Nat.mod_one]
  · exact flatten_get z hz n i h

def aMake (P : Program) (t : TypeId) (l c : AV) (σ : Heap) : Option (List Prop × AV × Heap) :=
  match elemInfo P t with
  | some (e, sz, by_) => match zeroA P e with
    | some z => bif allOne z && Nat.ble 1 sz then
        match l, c with
        | .int _ a, .int _ b => match allocH σ (.cells (repA a.toNat z) ⟨false, tyU8 P e⟩) with
          | (id, ver, σ') => some ([0 ≤ a, a ≤ b, by_ * b ≤ 281474976710656, b ≤ 9223372036854775807], .ms id ver 0 a.toNat sz false, σ')
        | _, _ => none
      else none
    | none => none
  | none => none

theorem wrap_i64_of {n : Int} (h0 : 0 ≤ n) (h1 : n ≤ 9223372036854775807) : IntKind.i64.wrap n = n := by
  unfold IntKind.wrap
  have hm : n % (2 ^ IntKind.i64.bits : Int) = n := Int.emod_eq_of_lt h0 (by show n < 18446744073709551616; omega)
  simp only [hm]
  rw [if_neg]
  intro h
  simp only [Bool.and_eq_true, decide_eq_true_eq] at h
  have h2 := h.2
  have h3 : (2 ^ (IntKind.i64.bits - 1) : Int) = 9223372036854775808 := by decide
  rw [h3] at h2
  omega

theorem aMake_run {cx : Cx} {r : Rl} {σ σ' : Heap} {w : World} {t : TypeId} {l c : Value} {l' c' v : AV} {C : List Prop} (hi : Inv cx r σ w) (h : aMake cx.P t l' c' σ = some (C, v, σ')) (hC : AllP C)
    (hl : VRel r w l l') (hc : VRel r w c c') : ∃ v' w' r', (Instr.makeSlice t l c).run cx.P w = .ok v' w' ∧ VRel r' w' v' v ∧ Inv cx r' σ' w' ∧ Ext r σ w r' σ' w' := by
  unfold aMake at h
  split at h
  case h_2 => cases h
  rename_i e sz by_ hel
  obtain ⟨inf, z, hu, hinfo, hz, hz1, hz2, hz3⟩ := elemInfo_some hel
  split at h
  case h_2 => cases h
  rename_i za hza
  obtain ⟨inf', z', hinfo', hz', rfl⟩ := zeroA_some hza
  rw [hinfo] at hinfo'
  simp only [Option.some.injEq] at hinfo'
  subst hinfo'
  rw [hz] at hz'
  simp only [Option.some.injEq] at hz'
  subst hz'
  cases hb : (allOne (z.cells.toList.map cst1) && Nat.ble 1 sz) with
  | false => rw [hb] at h; cases h
  | true =>
  rw [hb] at h
  simp only [cond_true] at h
  simp only [Bool.and_eq_true] at hb
  have hone := allOne_mem hb.1
  have hsz1 := Nat.le_of_ble_eq_true hb.2
  split at h
  case h_2 => cases h
  rename_i k1 a k2 b
  generalize hal : allocH σ _ = al at h
  obtain ⟨id, ver, σ1⟩ := al
  simp only [Option.some.injEq, Prod.mk.injEq] at h; obtain ⟨rfl, rfl, rfl⟩ := h
  obtain ⟨c1, c2, c3, c4, _⟩ := hC
  cases hl
  cases hc
  have hszo : szOf cx.P e = some sz := by simp [szOf, hinfo, hz2]
  have hwa := wrap_i64_of c1 (by omega)
  have hwb := wrap_i64_of (Int.le_trans c1 c2) c4
  have hn0 : ∃ c : Array Value, (Instr.makeSlice t (.int k1 a) (.int k2 b)).run cx.P w = .ok (.slice (some ⟨w.heap.size, 0, none⟩) a.toNat b.toNat) (w.alloc (.cells c e)) ∧ c.size = b.toNat * sz ∧
      ∀ i : Nat, i < b.toNat * sz → c[i]? = z.cells[i % sz]? := by
    have hzs : 0 < z.cells.size := by omega
    have hneg1 : ¬ b < 0 := by omega
    have hneg2 : ¬ a < 0 := by omega
    have hneg3 : ¬ b < a := by omega
    have hneg4 : ¬ (281474976710656 : Int) < inf.bytes * b := by rw [hz3]; omega
    by_cases h0 : b.toNat * sz = 0
    · refine ⟨#[], ?_, by rw [h0]; rfl, fun i hil => by omega⟩
      have hb0 : b.toNat = 0 := by
        rcases Nat.mul_eq_zero.1 h0 with h | h
        · exact h
        · omega
      simp only [Instr.makeSlice, Sem.run_bind, run_underlying hu, Result.andThen_ok, asInt, asIntOf, Sem.run_pure, typeInfo, run_program, hinfo, hwa, hwb, run_askRoom, run_sizeOf' hszo]
      simp [hneg1, hneg2, hneg3, hneg4, h0, hb0, newRow, run_askRoom, run_sizeOf' hszo]
      simp only [Array.range_zero', Array.map_empty]
    · refine ⟨(Array.range (b.toNat * sz)).map (z.cells[· % z.cells.size]!), ?_, by simp, fun i hil => ?_⟩
      · simp only [Instr.makeSlice, Sem.run_bind, run_underlying hu, Result.andThen_ok, asInt, asIntOf, Sem.run_pure, typeInfo, run_program, hinfo, hwa, hwb, run_askRoom, run_sizeOf' hszo]
        have h0' : ¬ (b.toNat = 0 ∨ sz = 0) := by
          intro h
          rcases h with h | h <;> simp [h] at h0
        simp only [not_or] at h0'
        simp [hneg1, hneg2, hneg3, hneg4, h0'.1, h0'.2, newRow, run_askRoom, zeroValue, typeInfo, hinfo, hz, run_sizeOf' hszo]
        intro h; exact absurd h h0
      · have hm : i % sz < z.cells.size := by rw [hz1]; exact Nat.mod_lt _ (by omega)
        rw [Array.getElem?_map, Array.getElem?_range, if_pos hil, Option.map_some, hz1, Array.getElem?_eq_getElem hm, getElem!_pos z.cells _ hm]
  obtain ⟨c, hrun, hcs, hcr⟩ := hn0
  have hzl : (z.cells.toList.map cst1).length = sz := by simp [hz1]
  have hrl := repA_length a.toNat (z.cells.toList.map cst1)
  have hle : a.toNat * sz ≤ b.toNat * sz := Nat.mul_le_mul_right _ (by omega)
  obtain ⟨r', q1, q2, q3, q4, q5⟩ := hi.newCells (c := c) (t := e) hal (fun i hil => by
    have hil' := hil
    rw [hrl, hzl] at hil'
    obtain ⟨u, m1, m2⟩ := cst1_cells r w z (i % sz) (by rw [hzl]; exact Nat.mod_lt _ (by omega))
    refine ⟨u, by rw [hcr i (by omega)]; exact m1, ?_⟩
    rw [repA_get _ _ _ hil (by omega)]
    simp only [hzl]
    exact m2) (fun y hy => by
      obtain ⟨i, hi1, rfl⟩ := List.getElem_of_mem hy
      rw [repA_get _ _ _ hi1 (by omega)]
      exact hone _ (List.getElem_mem _)) (fun T h => tyU8_eq h)
  refine ⟨_, _, r', hrun, ?_, q1, q2⟩
  have hv := VRel.ms (r := r') (w := w.alloc (.cells c e)) (id := id) (ver := ver) (b := w.heap.size) (o := 0) (off := 0) (n := a.toNat) (cap := b.toNat) (sz := sz) (full := false) q3
    ⟨c, e, _, heap_alloc_self w _, by omega⟩ (by omega) (fun h => by cases h)
  exact hv

end Go.Ab
end

section
set_option linter.unusedVariables false
set_option linter.unusedSimpArgs false
namespace Go.Ab
open Go

theorem cells_store {cx : Cx} {gT : Option TypeId} {r : Rl} {σ : Heap} {w : World} {id ver off b o : Nat} {cs ys : List AV} {vs : List Value} (hi : Inv cx r σ w)
    (hσ : σ[id]? = some (ver, some (.cells cs ⟨false, gT⟩))) (hle : off + ys.length ≤ cs.length) (hone : ∀ y ∈ ys, y.one = true) (hx : Vals r w vs ys) (hρ : r.ρ id ver = some (b, o)) (h0 : ys.length ≠ 0) :
    ∃ w' r', (storeCells ⟨b, o + off, none⟩ vs).run cx.P w = .ok () w' ∧ Inv cx r' (σ.set id (ver, some (.cells (setRange cs off ys) ⟨false, gT⟩))) w' ∧ Ext r σ w r' (σ.set id (ver, some (.cells (setRange cs off ys) ⟨false, gT⟩))) w' := by
  have hbx : BoxRel r w b o (.cells cs ⟨false, gT⟩) := by
    rcases hi.box id ver _ hσ with ⟨b', o', h1, h2⟩ | ⟨h1, _⟩
    · rw [hρ] at h1; simp only [Option.some.injEq, Prod.mk.injEq] at h1; obtain ⟨rfl, rfl⟩ := h1; exact h2
    · rw [hρ] at h1; cases h1
  obtain ⟨c, ty, lo, hi', q1, q2, q3, q4, q5⟩ := hbx
  have hsz : o + cs.length ≤ c.size ∨ cs.length = 0 := by
    rcases Nat.eq_zero_or_pos cs.length with h0 | h0
    · exact .inr h0
    · obtain ⟨v, hv, _⟩ := q2 (cs.length - 1) (by omega)
      rcases Nat.lt_or_ge (o + (cs.length - 1)) c.size with h | h
      · left; omega
      · rw [Array.getElem?_eq_none h] at hv; cases hv
  have hcell : ∀ j, j < vs.length → (w.cell? ⟨b, o + off + j, none⟩).isSome = true ∧ w.frozen? ⟨b, o + off + j, none⟩ = false := by
    intro j hj
    have hj' : j < ys.length := by rw [← hx.1]; exact hj
    obtain ⟨v, h1, _⟩ := q2 (off + j) (by omega)
    rw [← Nat.add_assoc] at h1
    refine ⟨by simp [World.cell?, q1, h1], ?_⟩
    have hlt : o + off + j < c.size := by
      rcases Nat.lt_or_ge (o + off + j) c.size with h | h
      · exact h
      · rw [Array.getElem?_eq_none h] at h1; cases h1
    simp only [World.frozen?, q1]
    by_cases hf : lo ≤ o + off + j ∧ o + off + j < hi'
    · have := (q4 _ hf.1 hf.2 hlt).1; cases this
    · simp only [Bool.and_eq_false_iff, decide_eq_false_iff_not]
      by_cases h1 : lo ≤ o + off + j
      · right; intro h2; exact hf ⟨h1, h2⟩
      · left; exact h1
  have hrun := run_storeCells_cells (P := cx.P) b (o + off) vs 0 w (fun j hj => by simpa using (hcell j hj).1) (fun j hj => by simpa using (hcell j hj).2) (hx.one hone)
  simp only [Nat.add_zero] at hrun
  obtain ⟨c', h1, h2, h3, h4, h5, h6, h7, h8⟩ := setCells_heap b vs (o + off) w c ty (lo, hi') q1 (by have := hx.1; omega)
  have hid : id < σ.length := by
    rcases Nat.lt_or_ge id σ.length with h | h
    · exact h
    · rw [List.getElem?_eq_none h] at hσ; cases hσ
  have hu := hi.update (σ' := σ.set id (ver, some (.cells (setRange cs off ys) ⟨false, gT⟩))) (id := id) (ver := ver) (b := b) (o := o) (x := .cells (setRange cs off ys) ⟨false, gT⟩)
    (w' := w.setCells b (o + off) vs) (by simp [hid]) (fun j hj => by rw [List.getElem?_set, if_neg (Ne.symm hj)])
    (fun c2 y hy => by rw [hσ] at hy; simp only [Option.some.injEq, Prod.mk.injEq] at hy; exact .inr ⟨hy.1.symm, hρ⟩) (.inr ⟨ver, _, o, hσ, hρ⟩) (fun k hk hkb => h4 k hkb) (by rw [h5]; exact Nat.le_refl _)
    (fun c2 t2 f2 hc2 => by rw [q1] at hc2; simp only [Option.some.injEq, Obj.cells.injEq] at hc2; obtain ⟨rfl, rfl, rfl⟩ := hc2; exact ⟨c', _, h1, h2⟩) h6 h7 h8
    (fun g => by
      refine ⟨c', ty, lo, hi', h1, fun i hil => ?_, fun y hy => ?_, fun i a1 a2 a3 => ?_, q5⟩
      · rw [setRange_length _ _ _ hle] at hil
        have hget := setRange_get cs off ys hle i
        have hget2 : (setRange cs off ys)[i]? = some ((setRange cs off ys)[i]'(by rw [setRange_length _ _ _ hle]; exact hil)) := List.getElem?_eq_getElem _
        rw [h3]
        by_cases hin : off ≤ i ∧ i < off + ys.length
        · rw [if_pos (by have := hx.1; omega)]
          rw [if_pos hin] at hget
          obtain ⟨u, e1, e2⟩ := hx.2 (i - off) (by omega)
          refine ⟨u, by rw [← e1]; congr 1; omega, ?_⟩
          rw [hget, List.getElem?_eq_getElem (by omega)] at hget2
          simp only [Option.some.injEq] at hget2
          rw [← hget2]
          exact e2.mono g
        · rw [if_neg (by have := hx.1; omega)]
          rw [if_neg hin] at hget
          obtain ⟨u, e1, e2⟩ := q2 i hil
          refine ⟨u, e1, ?_⟩
          rw [hget, List.getElem?_eq_getElem hil] at hget2
          simp only [Option.some.injEq] at hget2
          rw [← hget2]
          exact e2.mono g
      · obtain ⟨i, hi1, rfl⟩ := List.getElem_of_mem hy
        have hget := setRange_get cs off ys hle i
        rw [List.getElem?_eq_getElem hi1] at hget
        split at hget
        · exact hone _ (List.mem_of_getElem? hget.symm)
        · exact q3 _ (List.mem_of_getElem? hget.symm)
      · rw [h2] at a3
        rw [setRange_length _ _ _ hle]
        exact q4 i a1 a2 a3)
  exact ⟨_, _, hrun, hu.1, hu.2⟩

def aCopy (P : Program) (dT : TypeId) (d s : AV) (σ : Heap) : Option (List Prop × AV × Heap) :=
  match elemInfo P dT with
  | some (_, sz, _) => match aSrc sz s σ with
    | some (C, n, ys) => match d with
      | .ms id ver off len s' _ => match σ[id]? with
        | some (cur, some (.cells cs ⟨false, gT⟩)) => some (C ++ [∀ y ∈ ys, y.one = true, ver = cur, s' = sz, off + n * sz ≤ cs.length, n ≤ len, 0 < n, 0 < sz], .int .i64 n, σ.set id (cur, some (.cells (setRange cs off ys) ⟨false, gT⟩)))
        | _ => none
      | _ => none
    | none => none
  | none => none

theorem aCopy_run {cx : Cx} {r : Rl} {σ σ' : Heap} {w : World} {dT sT ty : TypeId} {d s : Value} {d' s' v : AV} {C : List Prop} (hi : Inv cx r σ w) (h : aCopy cx.P dT d' s' σ = some (C, v, σ')) (hC : AllP C)
    (hd : VRel r w d d') (hs : VRel r w s s') :
    ∃ v' w' r', (Builtin.copy_ #[dT, sT] ty #[d, s]).run cx.P w = .ok v' w' ∧ VRel r' w' v' v ∧ Inv cx r' σ' w' ∧ Ext r σ w r' σ' w' := by
  unfold aCopy at h
  split at h
  case h_2 => cases h
  rename_i e sz by_ hel
  obtain ⟨i, z, hu, hinfo, hz, hz1, hz2, hz3⟩ := elemInfo_some hel
  split at h
  case h_2 => cases h
  rename_i C0 n ys hsrc
  split at h
  case h_2 => cases h
  rename_i id ver off len s0 fl
  split at h
  case h_2 => cases h
  rename_i cur cs hσ
  simp only [Option.some.injEq, Prod.mk.injEq] at h; obtain ⟨rfl, rfl, rfl⟩ := h
  obtain ⟨hC0, hone, hv, hs0, hle, hnl, hn0, hsz0, _⟩ := AllP_append hC
  subst hv; subst hs0
  obtain ⟨hl1, hl2, news, hl3, hl4⟩ := aSrc_run hi hsrc hC0 hs
  cases hd with
  | ms0 => omega
  | ms hρ hcap hnc hff =>
    rename_i b o cap
    have hpos : 0 < n * s0 := Nat.mul_pos hn0 hsz0
    obtain ⟨w', r', h1, h2, h3⟩ := cells_store hi hσ (by rw [hl2]; exact hle) hone hl3 hρ (by omega)
    have hszo : szOf cx.P e = some s0 := by simp [szOf, hinfo, hz2]
    have hmin : Nat.min n len = n := Nat.min_eq_left hnl
    refine ⟨.int .i64 n, w', r', ?_, .int, h2, h3⟩
    simp only [Builtin.copy_, List.getElem?_toArray, List.getElem?_cons_zero, List.getElem?_cons_succ, Sem.run_bind, run_underlying hu, Result.andThen_ok, hl1, hmin, run_sizeOf' hszo, hl4 w rfl, List.toList_toArray, h1, Sem.run_pure, goInt]

def forceV {α : Type} (v : AV) (c : AV → α) : α :=
  match v with
  | .top => c .top
  | .bool b => c (.bool b)
  | .int k n => c (.int k n)
  | .str s => c (.str s)
  | .nilp => c .nilp
  | .ptr id ver off => c (.ptr id ver off)
  | .eptr id ver off => c (.eptr id ver off)
  | .rp st cs => c (.rp st cs)
  | .nils => c .nils
  | .sl st fl sz xs => c (.sl st fl sz xs)
  | .ms id ver off len sz full => c (.ms id ver off len sz full)
  | .nilm => c .nilm
  | .map id ver => c (.map id ver)
  | .func fn a b => c (.func fn a b)
  | .nilf => c .nilf
  | .iface t v => c (.iface t v)
  | .nili => c .nili
  | .agg cs => c (.agg cs)
  | .tup vs => c (.tup vs)
  | .mark vs => c (.mark vs)

theorem forceV_eq {α : Type} (v : AV) (c : AV → α) : forceV v c = c v := by cases v <;> rfl

/-- The parts, each brought to its head. -/
def forceP {β : Type} : List (Nat × AV) → (List (Nat × AV) → β) → β
  | [], c => c []
  | p :: r, c => forceV p.2 fun v => forceP r fun r' => c ((p.1, v) :: r')

theorem forceP_eq {β : Type} : ∀ (l : List (Nat × AV)) (c : List (Nat × AV) → β), forceP l c = c l
  | [], c => rfl
  | p :: r, c => by rw [forceP, forceV_eq, forceP_eq r]

/-- All operations but calls of functions, and those whose outcome hangs on a test. -/
def aOp (cx : Cx) (M : List Nat) (dst : Option Nat) (o : Op) (fr : Fr) (σ : Heap) : Option (List Prop × AV × Heap) :=
  match o with
  | .alloc e => match zeroA cx.P e with
    | some z => bif allOne z then match allocH σ (.cells z ⟨false, tyS cx.P e⟩) with
        | (id, ver, σ') => some ([], .ptr id ver 0, σ')
      else none
    | none => none
  | .box e x => bif allOne (ev cx fr x).cells then match allocH σ (.cells (ev cx fr x).cells ⟨false, tyS cx.P e⟩) with
        | (id, ver, σ') => some ([], .ptr id ver 0, σ')
      else none
  | .build t ps => forceP (ps.toList.map fun p => (p.1, ev cx fr p.2)) fun l => match aBuild cx.P t l with
    | some v => some ([], v, σ)
    | none => none
  | .buildSlice t len ps => forceP (ps.toList.map fun p => (p.1, ev cx fr p.2)) fun l => match aLit cx.P (inM dst M) t len l σ with
    | some (v, σ') => some ([], v, σ')
    | none => none
  | .store t a x => match aStore cx.P t (ev cx fr a) (ev cx fr x) σ with
    | some (C, σ') => some (C, .tup [], σ')
    | none => none
  | .makeSlice t l c => aMake cx.P t (ev cx fr l) (ev cx fr c) σ
  | .range t x => match cx.P.underlying t, ev cx fr x with
    | some .string, .str s => match allocH σ (.siter s 0) with
      | (id, ver, σ') => some ([], .ptr id ver 0, σ')
    | _, _ => none
  | .convert s d x => match aBytes cx.P (inM dst M) s d (ev cx fr x) σ with
    | some (v, σ') => some ([], v, σ')
    | none => match aConv cx.P s d (ev cx fr x) σ with
      | some (C, v) => some (C, v, σ)
      | none => none
  | .call { callee := .builtin .append, args := args, argTypes := ts } => match args.toList, ts.toList with
    | [s, x], [t, u] => aAppend cx.P t u (ev cx fr s) (ev cx fr x) σ
    | _, _ => none
  | .call { callee := .builtin .copy, args := args, argTypes := ts } => match args.toList, ts.toList with
    | [d, s], [t, _] => aCopy cx.P t (ev cx fr d) (ev cx fr s) σ
    | _, _ => none
  | o => match aPure cx o fr σ with
    | some (C, v) => some (C, v, σ)
    | none => none

theorem aOp_run {cx : Cx} {M : List Nat} {r : Rl} {σ σ' : Heap} {w : World} {n : Nat} {fr : Fr} {a : Act} {o : Oper} {C : List Prop} {v : AV} (hi : Inv cx r σ w) (hf : FRel r w n fr a)
    (h : aOp cx M o.dst o.op fr σ = some (C, v, σ')) (hC : AllP C) : OpRes cx r σ w ((execOp a.eval o).run cx.P w) v σ' := by
  have he : ∀ x, VRel r w (a.eval x) (ev cx fr x) := fun x => ev_rel hi hf x
  have hpure : ∀ {C : List Prop} {v : AV}, aPure cx o.op fr σ = some (C, v) → AllP C → OpRes cx r σ w ((execOp a.eval o).run cx.P w) v σ := by
    intro C v h hC
    obtain ⟨v', h1, h2⟩ := aPure_run hi hf h hC
    exact ⟨r, w, v', .inl h1, h2, hi, Ext.refl _ _ _⟩
  have q : ∀ {s : Sem Value} {v : AV} {σ' : Heap}, (∃ v' w' r', s.run cx.P w = .ok v' w' ∧ VRel r' w' v' v ∧ Inv cx r' σ' w' ∧ Ext r σ w r' σ' w') →
      OpRes cx r σ w ((do let x ← s; pure (Next.value x) : Sem Next).run cx.P w) v σ' := by
    rintro s v σ' ⟨v', w', r', h1, h2, h3, h4⟩
    exact ⟨r', w', v', .inl (by simp [h1]), h2, h3, h4⟩
  have hparts : ∀ ps : Array (Nat × Operand), ∀ i (h : i < (ps.toList.map fun p => (p.1, ev cx fr p.2)).length) (h' : i < ((ps.map fun p => (p.1, a.eval p.2)).toList).length),
      ((ps.toList.map fun p => (p.1, ev cx fr p.2))[i]).1 = (((ps.map fun p => (p.1, a.eval p.2)).toList)[i]).1 ∧ VRel r w (((ps.map fun p => (p.1, a.eval p.2)).toList)[i]).2 ((ps.toList.map fun p => (p.1, ev cx fr p.2))[i]).2 := by
    intro ps i h h'
    simp only [Array.toList_map, List.getElem_map]
    exact ⟨by trivial, he _⟩
  obtain ⟨dst, op, ty, pos, after, guard⟩ := o
  simp only at h hpure
  unfold aOp at h
  split at h
  · -- alloc
    rename_i e
    split at h
    case h_2 => cases h
    rename_i z hz
    obtain ⟨inf, zv, hinfo, hzv, rfl⟩ := zeroA_some hz
    cases hb : allOne (zv.cells.toList.map cst1) with
    | false => rw [hb] at h; cases h
    | true =>
    rw [hb] at h
    simp only [cond_true] at h
    generalize hal : allocH σ _ = al at h
    obtain ⟨id, ver, σ1⟩ := al
    simp only [Option.some.injEq, Prod.mk.injEq] at h; obtain ⟨rfl, rfl, rfl⟩ := h
    obtain ⟨r', k1, k2, k3, k4, k5⟩ := hi.newCells (c := zv.cells) (t := e) hal (cst1_cells r w zv) (allOne_mem hb) (fun T h => tyS_eq h)
    unfold execOp
    refine q ⟨.pointer (some ⟨w.heap.size, 0, none⟩), _, r', ?_, VRel.ptr (o := 0) (off := 0) k3, k1, k2⟩
    simp [Instr.alloc, run_zeroValue hinfo hzv, newVar, newRow]
  · -- box
    rename_i e x
    have hx := he x
    cases hb : allOne (ev cx fr x).cells with
    | false => rw [hb] at h; cases h
    | true =>
    rw [hb] at h
    simp only [cond_true] at h
    generalize hal : allocH σ _ = al at h
    obtain ⟨id, ver, σ1⟩ := al
    simp only [Option.some.injEq, Prod.mk.injEq] at h; obtain ⟨rfl, rfl, rfl⟩ := h
    have hone := allOne_mem hb
    have htop : (ev cx fr x).blank = false := AV.blank_of hone
    obtain ⟨h1, h2⟩ := hx.cells htop
    obtain ⟨r', k1, k2, k3, k4, k5⟩ := hi.newCells (c := (a.eval x).cells) (t := e) hal h2 hone (fun T h => tyS_eq h)
    unfold execOp
    refine q ⟨.pointer (some ⟨w.heap.size, 0, none⟩), _, r', ?_, VRel.ptr (o := 0) (off := 0) k3, k1, k2⟩
    simp [Instr.box, newVar, newRow]
  · -- build
    rename_i t ps
    rw [forceP_eq] at h
    split at h
    case h_2 => cases h
    rename_i u hb
    simp only [Option.some.injEq, Prod.mk.injEq] at h; obtain ⟨rfl, rfl, rfl⟩ := h
    obtain ⟨v', h1, h2⟩ := aBuild_run hb (by simp) (hparts ps)
    unfold execOp
    exact q ⟨v', w, r, h1, h2, hi, Ext.refl _ _ _⟩
  · -- buildSlice
    rename_i t len ps
    rw [forceP_eq] at h
    split at h
    case h_2 => cases h
    rename_i u σ1 hb
    simp only [Option.some.injEq, Prod.mk.injEq] at h; obtain ⟨rfl, rfl, rfl⟩ := h
    unfold execOp
    exact q (aLit_run hi hb (by simp) (hparts ps))
  · -- store
    rename_i t y x
    split at h
    case h_2 => cases h
    rename_i C1 σ1 hb
    simp only [Option.some.injEq, Prod.mk.injEq] at h; obtain ⟨rfl, rfl, rfl⟩ := h
    obtain ⟨w', r', h1, h2, h3⟩ := aStore_run hi hb hC (he y) (he x)
    refine ⟨r', w', undef, .inr ⟨?_, rfl⟩, .tup rfl (fun i h => absurd h (by simp)), h2, h3⟩
    simp [execOp, h1]
  · unfold execOp
    exact q (aMake_run hi h hC (he _) (he _))
  · -- range
    rename_i t x
    have hx := he x
    split at h
    case h_2 => cases h
    rename_i s hu hxe
    rw [hxe] at hx
    generalize hal : allocH σ _ = al at h
    obtain ⟨id, ver, σ1⟩ := al
    simp only [Option.some.injEq, Prod.mk.injEq] at h; obtain ⟨rfl, rfl, rfl⟩ := h
    unfold execOp
    refine q ?_
    try simp only
    generalize a.eval x = y at hx ⊢
    cases hx with
    | str hs =>
      rename_i u
      have hn := hi.new (ob := .stringIter u 0) hal (fun g => ⟨rfl, u, hs, heap_alloc_self w _⟩)
      refine ⟨.pointer (some ⟨w.heap.size, 0, none⟩), w.alloc (.stringIter u 0), _, ?_, VRel.ptr (o := 0) (off := 0) (by simp [Rl.bind]), hn.1, hn.2⟩
      simp [Instr.range, run_underlying hu]
  · -- convert
    rename_i s d x
    unfold execOp
    split at h
    · rename_i u σ1 hb
      simp only [Option.some.injEq, Prod.mk.injEq] at h; obtain ⟨rfl, rfl, rfl⟩ := h
      exact q (aBytes_run hi hb (he x))
    · split at h
      case h_2 => cases h
      rename_i C1 u hb
      simp only [Option.some.injEq, Prod.mk.injEq] at h; obtain ⟨rfl, rfl, rfl⟩ := h
      obtain ⟨v', h1, h2⟩ := aConv_run hi hb hC (he x)
      exact q ⟨v', w, r, h1, h2, hi, Ext.refl _ _ _⟩
  · -- append
    rename_i args ts
    obtain ⟨bs, hbs⟩ := run_len_call cx.P w a.eval .append args ts dst ty pos after guard
    rw [hbs]
    split at h
    · rename_i s x t u hargs hts
      have h1 : args = #[s, x] := by rw [← Array.toArray_toList (xs := args), hargs]
      have h2 : ts = #[t, u] := by rw [← Array.toArray_toList (xs := ts), hts]
      subst h1; subst h2
      simp only [builtin, List.map_toArray, List.map_cons, List.map_nil]
      exact q (aAppend_run hi h hC (he s) (he x))
    · cases h
  · -- copy
    rename_i args ts
    obtain ⟨bs, hbs⟩ := run_len_call cx.P w a.eval .copy args ts dst ty pos after guard
    rw [hbs]
    split at h
    · rename_i s x t u hargs hts
      have h1 : args = #[s, x] := by rw [← Array.toArray_toList (xs := args), hargs]
      have h2 : ts = #[t, u] := by rw [← Array.toArray_toList (xs := ts), hts]
      subst h1; subst h2
      simp only [builtin, List.map_toArray, List.map_cons, List.map_nil]
      exact q (aCopy_run hi h hC (he s) (he x))
    · cases h
  · split at h
    · rename_i C1 u hp
      simp only [Option.some.injEq, Prod.mk.injEq] at h; obtain ⟨rfl, rfl, rfl⟩ := h
      exact hpure hp hC
    · cases h

end Go.Ab
end

section
set_option linter.unusedVariables false
set_option linter.unusedSimpArgs false
namespace Go.Ab
open Go

inductive AExit where
  | normal
  | ret
  | exit (id : Nat)
  | goto (l : Nat)
  | panic (v : AV)

def ERel (r : Rl) (w : World) : Exit → AExit → Prop
  | .normal, .normal => True
  | .ret, .ret => True
  | .exit i, .exit j => i = j
  | .goto i, .goto j => i = j
  | .panic chain, .panic v => ∃ v', chain = [{ v := v', recovered := false }] ∧ VRel r w v' v
  | _, _ => False

/-- Where the call began. -/
structure Bs where
  r : Rl
  σ : Heap
  w : World
  df : Bool := false

/-- Nothing is deferred, where nothing may be. -/
def Dfs (B : Bs) (a : Act) : Prop := B.df = false → a.defers = []

abbrev Post := AExit → Fr → Heap → Prop

def Lift (cx : Cx) (n : Nat) (B : Bs) (Q : Post) : Exit → Act → World → Prop := fun e a w =>
  ∃ ae fr σ r, Q ae fr σ ∧ ERel r w e ae ∧ Inv cx r σ w ∧ FRel r w n fr a ∧ Dfs B a ∧ Ext B.r B.σ B.w r σ w

def Here (cx : Cx) (n : Nat) (B : Bs) (fr : Fr) (σ : Heap) (R : Act → World → Prop) : Prop :=
  ∀ r a w, Inv cx r σ w → FRel r w n fr a → Dfs B a → Ext B.r B.σ B.w r σ w → R a w

def CodeOk (cx : Cx) (n : Nat) (B : Bs) (c : Code) (Q : Post) (fr : Fr) (σ : Heap) : Prop := Here cx n B fr σ (c.wp cx.P (Lift cx n B Q))

def OpsOk (cx : Cx) (n : Nat) (B : Bs) (all : Array Oper) (l : List Oper) (Q : Post) (fr : Fr) (σ : Heap) : Prop := Here cx n B fr σ (wpList cx.P all (Lift cx n B Q) l)

inductive AI where
  | code (c : Code)
  | blk (id : Nat)
  | ops (all : Array Oper) (l : List Oper) (K : List Nat)
  | inv (M : Fr → Heap → Prop)

def after (cx : Cx) (n : Nat) (B : Bs) : List AI → Post → Post
  | [], Q => Q
  | .code c :: k, Q => fun e => match e with
    | .normal => CodeOk cx n B c (after cx n B k Q)
    | e => after cx n B k Q e
  | .blk id :: k, Q => fun e => match e with
    | .exit id' => if id' = id then after cx n B k Q .normal else after cx n B k Q (.exit id')
    | e => after cx n B k Q e
  | .ops all l _ :: k, Q => fun e => match e with
    | .normal => OpsOk cx n B all l (after cx n B k Q)
    | e => after cx n B k Q e
  | .inv M :: k, Q => fun e => match e with
    | .normal => M
    | e => after cx n B k Q e

def S (cx : Cx) (n : Nat) (B : Bs) (todo : List AI) (Q : Post) (fr : Fr) (σ : Heap) : Prop := after cx n B todo Q .normal fr σ

section
variable {cx : Cx} {n : Nat} {B : Bs} {k : List AI} {Q : Post} {fr : Fr} {σ : Heap}

theorem Lift.mk {e : Exit} {ae : AExit} {Q : Post} {r : Rl} {a : Act} {w : World} (h : Q ae fr σ) (he : ERel r w e ae) (hi : Inv cx r σ w) (hf : FRel r w n fr a) (hd : Dfs B a) (hx : Ext B.r B.σ B.w r σ w) : Lift cx n B Q e a w :=
  ⟨ae, fr, σ, r, h, he, hi, hf, hd, hx⟩

theorem S_skip (h : S cx n B k Q fr σ) : S cx n B (.code .skip :: k) Q fr σ :=
  fun r a w hi hf hd hx => wp_skip (Lift.mk h trivial hi hf hd hx)

theorem S_label {l : Nat} (h : S cx n B k Q fr σ) : S cx n B (.code (.label l) :: k) Q fr σ :=
  fun r a w hi hf hd hx => wp_label (Lift.mk h trivial hi hf hd hx)

theorem S_seq {x y : Code} (h : S cx n B (.code x :: .code y :: k) Q fr σ) : S cx n B (.code (.seq x y) :: k) Q fr σ := by
  intro r a w hi hf hd hx
  refine wp_seq (wp_mono (h r a w hi hf hd hx) fun e a w hq => ?_)
  obtain ⟨ae, fr', σ', r', hq, he, hi', hf', hd', hx'⟩ := hq
  cases e <;> cases ae <;> first | exact he.elim | skip
  · exact hq r' a w hi' hf' hd' hx'
  · exact Lift.mk hq he hi' hf' hd' hx'
  · exact Lift.mk hq he hi' hf' hd' hx'
  · exact Lift.mk hq he hi' hf' hd' hx'
  · exact Lift.mk hq he hi' hf' hd' hx'

theorem S_block {id : Nat} {c : Code} (h : S cx n B (.code c :: .blk id :: k) Q fr σ) : S cx n B (.code (.block id c) :: k) Q fr σ := by
  intro r a w hi hf hd hx
  refine wp_block (wp_mono (h r a w hi hf hd hx) fun e a w hq => ?_)
  obtain ⟨ae, fr', σ', r', hq, he, hi', hf', hd', hx'⟩ := hq
  cases e <;> cases ae <;> first | exact he.elim | skip
  · exact Lift.mk hq he hi' hf' hd' hx'
  · rename_i i j
    have hij : i = j := he
    subst hij
    simp only [after] at hq
    simp only [Exit.inBlock]
    split at hq
    · rename_i hid
      rw [if_pos hid]
      exact Lift.mk hq trivial hi' hf' hd' hx'
    · rename_i hid
      rw [if_neg hid]
      exact Lift.mk (ae := .exit i) hq rfl hi' hf' hd' hx'
  · exact Lift.mk hq he hi' hf' hd' hx'
  · exact Lift.mk hq he hi' hf' hd' hx'
  · exact Lift.mk hq he hi' hf' hd' hx'

theorem S_blk {id : Nat} (h : S cx n B k Q fr σ) : S cx n B (.blk id :: k) Q fr σ := h

theorem S_region {id : Nat} {ops : Array Oper} {K : List Nat} (h : S cx n B (.ops ops ops.toList K :: k) Q fr σ) : S cx n B (.code (.region id ops false) :: k) Q fr σ :=
  fun r a w hi hf hd hx => wp_region_list (h r a w hi hf hd hx)

theorem S_ops_nil {all : Array Oper} {K : List Nat} (h : S cx n B k Q fr σ) : S cx n B (.ops all [] K :: k) Q fr σ :=
  fun r a w hi hf hd hx => wpList_nil (Lift.mk h trivial hi hf hd hx)

def popTo (id : Nat) : List AI → Option (List AI)
  | [] => none
  | .blk i :: k => bif Nat.beq i id then some k else popTo id k
  | .code _ :: k => popTo id k
  | .ops .. :: k => popTo id k
  | .inv _ :: k => popTo id k

theorem after_exit {id : Nat} : ∀ {k k' : List AI}, popTo id k = some k' → after cx n B k' Q .normal fr σ → after cx n B k Q (.exit id) fr σ
  | [], k', h, _ => by simp [popTo] at h
  | .blk i :: k, k', h, hq => by
    simp only [popTo] at h
    cases hb : Nat.beq i id with
    | true =>
      rw [hb] at h
      simp only [cond_true, Option.some.injEq] at h
      subst h
      have := Nat.eq_of_beq_eq_true hb
      subst this
      simp only [after, if_true]
      exact hq
    | false =>
      rw [hb] at h
      simp only [cond_false] at h
      have hne : ¬ id = i := fun e => by subst e; simp at hb
      simp only [after, if_neg hne]
      exact after_exit h hq
  | .code _ :: k, k', h, hq => after_exit (k := k) h hq
  | .ops .. :: k, k', h, hq => after_exit (k := k) h hq
  | .inv _ :: k, k', h, hq => after_exit (k := k) h hq

theorem S_exit {id : Nat} {k' : List AI} (hp : popTo id k = some k') (h : S cx n B k' Q fr σ) : S cx n B (.code (.exit id) :: k) Q fr σ :=
  fun r a w hi hf hd hx => wp_exit (Lift.mk (ae := .exit id) (after_exit hp h) rfl hi hf hd hx)

theorem after_ret : ∀ (k : List AI), after cx n B k Q .ret = Q .ret
  | [] => rfl
  | .blk i :: k => after_ret k
  | .code _ :: k => after_ret k
  | .ops .. :: k => after_ret k
  | .inv _ :: k => after_ret k

theorem after_panic (v : AV) : ∀ (k : List AI), after cx n B k Q (.panic v) = Q (.panic v)
  | [] => rfl
  | .blk i :: k => after_panic v k
  | .code _ :: k => after_panic v k
  | .ops .. :: k => after_panic v k
  | .inv _ :: k => after_panic v k

theorem S_ret (h : Q .ret fr σ) : S cx n B (.code .ret :: k) Q fr σ :=
  fun r a w hi hf hd hx => wp_ret (Lift.mk (ae := .ret) (by rw [after_ret]; exact h) trivial hi hf hd hx)

theorem S_nil (h : Q .normal fr σ) : S cx n B [] Q fr σ := h

theorem S_cond {c : Operand} {x y : Code} {b : Bool} (hc : ev cx fr c = .bool b) (ht : b = true → S cx n B (.code x :: k) Q fr σ) (hf : b = false → S cx n B (.code y :: k) Q fr σ) : S cx n B (.code (.cond c x y) :: k) Q fr σ := by
  intro r a w hi hf' hd hx
  have hv := ev_rel hi hf' c
  rw [hc] at hv
  have he : a.eval c = .bool b := by generalize a.eval c = z at hv; cases hv; rfl
  exact wp_cond_split he (fun h => ht h r a w hi hf' hd hx) (fun h => hf h r a w hi hf' hd hx)

theorem S_inv {M : Fr → Heap → Prop} (h : M fr σ) : S cx n B (.inv M :: k) Q fr σ := h

theorem S_code_weak {c : Code} {fr' : Fr} (hw : Weak fr fr') (h : S cx n B (.code c :: k) Q fr' σ) : S cx n B (.code c :: k) Q fr σ :=
  fun r a w hi hf hd hx => h r a w hi (hf.weak hw) hd hx

theorem S_ops_weak {all : Array Oper} {l : List Oper} {K : List Nat} {fr' : Fr} (hw : Weak fr fr') (h : S cx n B (.ops all l K :: k) Q fr' σ) : S cx n B (.ops all l K :: k) Q fr σ :=
  fun r a w hi hf hd hx => h r a w hi (hf.weak hw) hd hx

/-- A loop: what holds at its head, with a measure. -/
theorem S_loop {c : Code} (I : Nat → Fr → Heap → Prop) (m : Nat) (h0 : I m fr σ)
    (hb : ∀ m fr σ, I m fr σ → S cx n B (.code c :: .inv (fun fr' σ' => ∃ m' fr'', m' < m ∧ I m' fr'' σ' ∧ Weak fr' fr'') :: k) Q fr σ) : S cx n B (.code (.loop c) :: k) Q fr σ := by
  intro r a w hi hf hd hx b kk cs
  have key : ∀ m (fr : Fr) (σ : Heap) (r : Rl) (a : Act) (w : World), I m fr σ → Inv cx r σ w → FRel r w n fr a → Dfs B a → Ext B.r B.σ B.w r σ w →
      ∃ e a' w', Lift cx n B (after cx n B k Q) e a' w' ∧ Arrives cx.P (lone (b.at a (.code c :: .inLoop c :: kk)) cs w) b kk cs e a' w' := by
    intro m
    induction m using Nat.strongRecOn with
    | _ m ih =>
      intro fr σ r a w hI hi hf hd hx
      obtain ⟨e, a₁, w₁, ⟨ae, fr', σ', r', hq, he, hi', hf', hd', hx'⟩, harr⟩ := hb m fr σ hI r a w hi hf hd hx b (.inLoop c :: kk) cs
      cases e <;> cases ae <;> first | exact he.elim | skip
      · obtain ⟨m', fr'', hlt, hI', hw⟩ := hq
        obtain ⟨e₂, a₂, w₂, hq₂, harr₂⟩ := ih m' hlt fr'' σ' r' a₁ w₁ hI' hi' (hf'.weak hw) hd' hx'
        exact ⟨e₂, a₂, w₂, hq₂, .of_steps (Steps.trans harr (.one step_inLoop)) harr₂⟩
      · exact ⟨_, a₁, w₁, Lift.mk hq he hi' hf' hd' hx', .pass (x := .inLoop c) rfl (fun _ _ => .inl (by simp)) harr⟩
      · exact ⟨_, a₁, w₁, Lift.mk hq he hi' hf' hd' hx', .pass (x := .inLoop c) rfl (fun _ _ => .inl (by simp)) harr⟩
      · exact ⟨_, a₁, w₁, Lift.mk hq he hi' hf' hd' hx', .pass (x := .inLoop c) rfl (fun _ _ => .inl (by simp)) harr⟩
      · exact ⟨_, a₁, w₁, Lift.mk hq he hi' hf' hd' hx', .pass (x := .inLoop c) rfl (fun _ _ => .inl (by simp)) harr⟩
  obtain ⟨e, a', w', hq, harr⟩ := key m fr σ r a w h0 hi hf hd hx
  exact ⟨e, a', w', hq, .of_steps (.one step_loop) harr⟩

end
end Go.Ab
end

section
set_option linter.unusedVariables false
set_option linter.unusedSimpArgs false
namespace Go.Ab
open Go

def guardA (all : Array Oper) (o : Oper) (K : List Nat) (fr : Fr) : Option Bool :=
  match o.guard with
  | none => some true
  | some (j, want) => match all[j]? with
    | some oj => match oj.dst with
      | some d => match fr.get d with
        | .bool b => bif memN d K then
            match b with
            | true => some want
            | false => some (!want)
          else none
        | .tup vs => match vs with
          | [] => some false
          | _ :: _ => none
        | _ => none
      | none => none
    | none => none

theorem yielded_of {cx : Cx} {r : Rl} {w : World} {n : Nat} {fr : Fr} {a : Act} {all : Array Oper} {j d : Nat} {oj : Oper} {b : Bool} (hf : FRel r w n fr a) (hj : all[j]? = some oj) (hd : oj.dst = some d) (hb : fr.get d = .bool b) :
    yielded all a.tmps j = some b := by
  have hv := hf.get d
  rw [hb] at hv
  have h1 : a.tmps[d]? = some (.bool b) := by
    rw [Array.getD_eq_getD_getElem?] at hv
    cases h : a.tmps[d]? with
    | none => rw [h] at hv; simp only [Option.getD_none, undef] at hv; cases hv
    | some v => rw [h] at hv; simp only [Option.getD_some] at hv; cases hv; rfl
  simp [yielded, hj, hd, h1]

theorem guardA_wanted {cx : Cx} {r : Rl} {w : World} {n : Nat} {fr : Fr} {a : Act} {all : Array Oper} {o : Oper} {K : List Nat} {t : Bool} (hf : FRel r w n fr a) (h : guardA all o K fr = some t) :
    Region.wanted o (yielded all a.tmps) = t := by
  unfold guardA at h
  split at h
  · rename_i hg
    simp only [Option.some.injEq] at h
    subst h
    simp [Region.wanted, hg]
  · rename_i j want hg
    split at h
    case h_2 => cases h
    rename_i oj hj
    split at h
    case h_2 => cases h
    rename_i d hd
    split at h
    · rename_i b hb
      cases hm : memN d K with
      | false => rw [hm] at h; cases h
      | true =>
        rw [hm] at h
        simp only [cond_true] at h
        have hy := yielded_of (cx := cx) hf hj hd hb
        split at h <;> (simp only [Option.some.injEq] at h; subst h; cases want <;> simp [Region.wanted, hg, hy])
    · rename_i vs hb
      split at h
      case h_2 => cases h
      simp only [Option.some.injEq] at h
      subst h
      have hv := hf.get d
      rw [hb] at hv
      have hy : yielded all a.tmps j = none := by
        rw [Array.getD_eq_getD_getElem?] at hv
        cases h1 : a.tmps[d]? with
        | none => simp [yielded, hj, hd, h1]
        | some v =>
          rw [h1] at hv
          simp only [Option.getD_some] at hv
          cases hv
          simp [yielded, hj, hd, h1]
      simp [Region.wanted, hg, hy]
    · cases h

def setA (d : Option Nat) (v : AV) (fr : Fr) : Fr := match d with | some d => (d, v) :: fr | none => fr
def dstOk (n : Nat) (d : Option Nat) : Bool := match d with | some d => Nat.blt d n | none => true

theorem FRel.setA {r : Rl} {w : World} {n : Nat} {fr : Fr} {a : Act} {d : Option Nat} {v : Value} {x : AV} (h : FRel r w n fr a) (hd : dstOk n d = true) (hv : VRel r w v x) :
    FRel r w n (setA d x fr) (a.put d v) := by
  cases d with
  | none => exact h
  | some d => exact h.set (by simpa [dstOk, Nat.blt_eq] using hd) hv

theorem Act.put_defers (a : Act) (d : Option Tmp) (v : Value) : (a.put d v).defers = a.defers := by cases d <;> rfl

theorem Dfs.put {B : Bs} {a : Act} (h : Dfs B a) (d : Option Tmp) (v : Value) : Dfs B (a.put d v) := fun e => by rw [Act.put_defers]; exact h e

section
variable {cx : Cx} {n : Nat} {B : Bs} {k : List AI} {Q : Post} {fr : Fr} {σ : Heap}

theorem S_op {M : List Nat} {all : Array Oper} {o : Oper} {l : List Oper} {K : List Nat} {C : List Prop} {v : AV} {σ' : Heap} (hg : guardA all o K fr = some true) (h : aOp cx M o.dst o.op fr σ = some (C, v, σ')) (hC : AllP C)
    (hd : dstOk n o.dst = true) (hk : S cx n B (.ops all l K :: k) Q (setA o.dst v fr) σ') : S cx n B (.ops all (o :: l) K :: k) Q fr σ := by
  intro r a w hi hf hdf hx
  have hw := guardA_wanted (cx := cx) hf hg
  obtain ⟨r', w', v', hrun, hv, hi', hx'⟩ := aOp_run hi hf h hC
  unfold wpList
  rw [if_pos hw]
  refine .inl ?_
  unfold Oper.wp
  have hf' : FRel r' w' n (setA o.dst v fr) (a.put o.dst v') := (hf.mono (hx'.grow hi)).setA hd hv
  have hgo := hk r' (a.put o.dst v') w' hi' hf' (hdf.put _ _) (hx.trans hx')
  rcases hrun with hrun | ⟨hrun, hu⟩
  · rw [hrun]; exact hgo
  · rw [hrun]; subst hu; exact hgo

theorem S_op_skip {all : Array Oper} {o : Oper} {l : List Oper} {K : List Nat} (hg : guardA all o K fr = some false) (hd : dstOk n o.dst = true) (hk : S cx n B (.ops all l K :: k) Q (setA o.dst (.tup []) fr) σ) :
    S cx n B (.ops all (o :: l) K :: k) Q fr σ := by
  intro r a w hi hf hdf hx
  have hw := guardA_wanted (cx := cx) hf hg
  unfold wpList
  rw [if_neg (by rw [hw]; simp)]
  exact hk r _ w hi (hf.setA hd (.tup rfl (fun i h => absurd h (by simp)))) (hdf.put _ _) hx

/-- A guard is looked at: two ways. -/
theorem S_guard {all : Array Oper} {o oj : Oper} {l : List Oper} {K : List Nat} {j d : Nat} {want b : Bool} (hg : o.guard = some (j, want)) (hj : all[j]? = some oj) (hd : oj.dst = some d) (hb : fr.get d = .bool b)
    (ht : b = true → S cx n B (.ops all (o :: l) (d :: K) :: k) Q ((d, .bool true) :: fr) σ) (hf : b = false → S cx n B (.ops all (o :: l) (d :: K) :: k) Q ((d, .bool false) :: fr) σ) :
    S cx n B (.ops all (o :: l) K :: k) Q fr σ := by
  intro r a w hi hfr hdf hx
  have key : ∀ c : Bool, b = c → FRel r w n ((d, .bool c) :: fr) a := by
    intro c hc
    subst hc
    refine ⟨hfr.size, fun t => ?_, fun vs hm => ?_⟩
    · rw [Fr.get_cons]
      split
      · rename_i h; subst h; rw [← hb]; exact hfr.get d
      · exact hfr.get t
    · rw [Fr.get_cons] at hm
      split at hm
      · cases hm
      · exact hfr.defs vs hm
  cases hbb : b with
  | true => exact ht hbb r a w hi (key true hbb) hdf hx
  | false => exact hf hbb r a w hi (key false hbb) hdf hx
end

/-- What can't be evaluated by itself. -/
def stopOp : Op → Bool
  | .call { callee := .builtin b, .. } => match b with
    | .append | .copy | .len | .unsafeSliceData | .min | .max => false
    | _ => true
  | .call _ => true
  | .defer _ => true
  | .panic _ => true
  | .go _ => true
  | .indexAddr .. => true
  | .lookup .. => true
  | .mapUpdate .. => true
  | .next .. => true
  | .entry _ => true
  | _ => false

def forceL {α β : Type} : List α → (List α → β) → β
  | [], c => c []
  | x :: r, c => forceL r fun r' => c (x :: r')

theorem forceL_eq {α β : Type} : ∀ (l : List α) (c : List α → β), forceL l c = c l
  | [], c => rfl
  | x :: r, c => forceL_eq r _

def setC {α : Type} (d : Option Nat) (v : AV) (fr : Fr) (c : Fr → α) : α := match d with | some d => c ((d, v) :: fr) | none => c fr

theorem setC_eq {α : Type} (d : Option Nat) (v : AV) (fr : Fr) (c : Fr → α) : setC d v fr c = c (setA d v fr) := by cases d <;> rfl

def pushAll {α : Type} : List Prop → List Prop → (List Prop → α) → α
  | [], C, c => c C
  | p :: r, C, c => pushAll r (p :: C) c

theorem pushAll_eq {α : Type} : ∀ (D C : List Prop) (c : List Prop → α), pushAll D C c = c (D.reverse ++ C)
  | [], C, c => rfl
  | p :: r, C, c => by rw [pushAll, pushAll_eq r]; simp

structure Rs where
  C : List Prop
  todo : List AI
  fr : Fr
  σ : Heap

def runA (cx : Cx) (M : List Nat) (n : Nat) : Nat → List Prop → List AI → Fr → Heap → Rs
  | 0, C, k, fr, σ => ⟨C, k, fr, σ⟩
  | f + 1, C, k, fr, σ =>
    match k with
    | [] => ⟨C, [], fr, σ⟩
    | .code c :: k => match c with
      | .skip => runA cx M n f C k fr σ
      | .label _ => runA cx M n f C k fr σ
      | .seq a b => runA cx M n f C (.code a :: .code b :: k) fr σ
      | .block id c => runA cx M n f C (.code c :: .blk id :: k) fr σ
      | .region id ops draw => match draw with
        | false => runA cx M n f C (.ops ops ops.toList [] :: k) fr σ
        | true => ⟨C, .code (.region id ops true) :: k, fr, σ⟩
      | .exit id => match popTo id k with
        | some k' => runA cx M n f C k' fr σ
        | none => ⟨C, .code (.exit id) :: k, fr, σ⟩
      | c => ⟨C, .code c :: k, fr, σ⟩
    | .blk _ :: k => runA cx M n f C k fr σ
    | .inv I :: k => ⟨C, .inv I :: k, fr, σ⟩
    | .ops all l K :: k => match l with
      | [] => runA cx M n f C k fr σ
      | o :: r => match guardA all o K fr with
        | some true => match stopOp o.op with
          | true => ⟨C, .ops all (o :: r) K :: k, fr, σ⟩
          | false => match dstOk n o.dst with
            | true => match aOp cx M o.dst o.op fr σ with
              | some (C', v, σ') => pushAll C' C fun C => forceV v fun v => forceL σ' fun σ' => setC o.dst v fr fun fr => runA cx M n f C (.ops all r K :: k) fr σ'
              | none => ⟨C, .ops all (o :: r) K :: k, fr, σ⟩
            | false => ⟨C, .ops all (o :: r) K :: k, fr, σ⟩
        | some false => match dstOk n o.dst with
          | true => setC o.dst (.tup []) fr fun fr => runA cx M n f C (.ops all r K :: k) fr σ
          | false => ⟨C, .ops all (o :: r) K :: k, fr, σ⟩
        | none => ⟨C, .ops all (o :: r) K :: k, fr, σ⟩

theorem AllP_rev {C : List Prop} : ∀ {D : List Prop}, AllP (D.reverse ++ C) → AllP D ∧ AllP C
  | [], h => ⟨trivial, h⟩
  | p :: r, h => by
    simp only [List.reverse_cons, List.append_assoc, List.singleton_append] at h
    obtain ⟨h1, h2⟩ := AllP_rev h
    exact ⟨⟨h2.1, h1⟩, h2.2⟩

theorem runA_sound {cx : Cx} {M : List Nat} {n : Nat} {B : Bs} {Q : Post} : ∀ (f : Nat) (C : List Prop) (k : List AI) (fr : Fr) (σ : Heap) (R : Rs), runA cx M n f C k fr σ = R → AllP R.C →
    AllP C ∧ (S cx n B R.todo Q R.fr R.σ → S cx n B k Q fr σ) := by
  intro f
  induction f with
  | zero => intro C k fr σ R h hC; subst h; exact ⟨hC, id⟩
  | succ f ih =>
    intro C k fr σ R h hC
    unfold runA at h
    split at h
    · subst h; exact ⟨hC, id⟩
    · rename_i c k'
      split at h
      · obtain ⟨h1, h2⟩ := ih _ _ _ _ _ h hC; exact ⟨h1, fun hs => S_skip (h2 hs)⟩
      · obtain ⟨h1, h2⟩ := ih _ _ _ _ _ h hC; exact ⟨h1, fun hs => S_label (h2 hs)⟩
      · obtain ⟨h1, h2⟩ := ih _ _ _ _ _ h hC; exact ⟨h1, fun hs => S_seq (h2 hs)⟩
      · obtain ⟨h1, h2⟩ := ih _ _ _ _ _ h hC; exact ⟨h1, fun hs => S_block (h2 hs)⟩
      · split at h
        · obtain ⟨h1, h2⟩ := ih _ _ _ _ _ h hC; exact ⟨h1, fun hs => S_region (h2 hs)⟩
        · subst h; exact ⟨hC, id⟩
      · split at h
        · rename_i id k'' hp
          obtain ⟨h1, h2⟩ := ih _ _ _ _ _ h hC; exact ⟨h1, fun hs => S_exit hp (h2 hs)⟩
        · subst h; exact ⟨hC, id⟩
      · subst h; exact ⟨hC, id⟩
    · obtain ⟨h1, h2⟩ := ih _ _ _ _ _ h hC; exact ⟨h1, fun hs => S_blk (h2 hs)⟩
    · subst h; exact ⟨hC, id⟩
    · split at h
      · obtain ⟨h1, h2⟩ := ih _ _ _ _ _ h hC; exact ⟨h1, fun hs => S_ops_nil (h2 hs)⟩
      · split at h
        · rename_i hg
          split at h
          · subst h; exact ⟨hC, id⟩
          · split at h
            · rename_i hd
              split at h
              · rename_i C' v σ' ha
                rw [pushAll_eq] at h
                simp only [forceV_eq, forceL_eq, setC_eq] at h
                obtain ⟨h1, h2⟩ := ih _ _ _ _ _ h hC
                obtain ⟨h3, h4⟩ := AllP_rev h1
                exact ⟨h4, fun hs => S_op hg ha h3 hd (h2 hs)⟩
              · subst h; exact ⟨hC, id⟩
            · subst h; exact ⟨hC, id⟩
        · rename_i hg
          split at h
          · rename_i hd
            rw [setC_eq] at h
            obtain ⟨h1, h2⟩ := ih _ _ _ _ _ h hC
            exact ⟨h1, fun hs => S_op_skip hg hd (h2 hs)⟩
          · subst h; exact ⟨hC, id⟩
        · subst h; exact ⟨hC, id⟩

/-- The machine goes on by itself. -/
theorem go {cx : Cx} {M : List Nat} {n : Nat} {B : Bs} {Q : Post} {k k' : List AI} {fr fr' : Fr} {σ σ' : Heap} {C : List Prop} (f : Nat) (h : runA cx M n f [] k fr σ = ⟨C, k', fr', σ'⟩) (hC : AllP C)
    (hk : S cx n B k' Q fr' σ') : S cx n B k Q fr σ :=
  (runA_sound f [] k fr σ _ h hC).2 hk

/-- The same, where every new slice is a finished one. -/
theorem ab {cx : Cx} {n : Nat} {B : Bs} {Q : Post} {k k' : List AI} {fr fr' : Fr} {σ σ' : Heap} {C : List Prop} (f : Nat) (h : runA cx [] n f [] k fr σ = ⟨C, k', fr', σ'⟩) (hC : AllP C)
    (hk : S cx n B k' Q fr' σ') : S cx n B k Q fr σ := go f h hC hk

theorem Weak.nil (fr : Fr) : Weak fr [] := fun t => .inl rfl
theorem Weak.cons {fr fr' : Fr} {t : Nat} {v : AV} (h : fr.get t = v) (hw : Weak fr fr') : Weak fr ((t, v) :: fr') := fun s => by
  rw [Fr.get_cons]
  by_cases hs : t = s
  · subst hs; rw [if_pos rfl]; exact .inr h.symm
  · rw [if_neg hs]; exact hw s

end Go.Ab
end

section
set_option linter.unusedVariables false
set_option linter.unusedSimpArgs false
namespace Go.Ab
open Go

inductive Out where
  | ret (v : AV)
  | panic (v : AV)

def ORel (r : Rl) (w : World) : Ending → Out → Prop
  | .returned v, .ret a => VRel r w v a
  | .panicked chain, .panic a => ∃ v, chain = [{ v, recovered := false }] ∧ VRel r w v a
  | _, _ => False

def Enters (P : Program) (f : FuncId) : Prop := ∀ (args : Array Value) (w : World), (callFunc f args).run P w = .ok (.enter f args) w

def VRels (r : Rl) (w : World) (vs : Array Value) (as : List AV) : Prop := vs.size = as.length ∧ ∀ i (h : i < as.length), VRel r w (vs.getD i undef) as[i]

/-- What a call comes to, out of a heap. -/
def CallOk (cx : Cx) (f : FuncId) (args : List AV) (σ : Heap) (R : Out → Heap → Prop) : Prop :=
  Enters cx.P f ∧ ∀ r w vs, Inv cx r σ w → VRels r w vs args → Calls cx.P f vs w fun e w' => ∃ o σ' r', R o σ' ∧ ORel r' w' e o ∧ Inv cx r' σ' w' ∧ Ext r σ w r' σ' w'

theorem CallOk.mono {cx : Cx} {f : FuncId} {args : List AV} {σ : Heap} {R R' : Out → Heap → Prop} (h : CallOk cx f args σ R) (hr : ∀ o σ', R o σ' → R' o σ') : CallOk cx f args σ R' :=
  ⟨h.1, fun r w vs hi hv => (h.2 r w vs hi hv).mono fun e w' ⟨o, σ', r', h1, h2⟩ => ⟨o, σ', r', hr _ _ h1, h2⟩⟩

def enterFr : Nat → List AV → Fr
  | _, [] => []
  | i, a :: r => (i, a) :: enterFr (i + 1) r

theorem enterFr_get : ∀ (as : List AV) (i t : Nat), (enterFr i as).get t = if i ≤ t then as.getD (t - i) .top else .top
  | [], i, t => by simp [enterFr, Fr.get]
  | a :: r, i, t => by
    simp only [enterFr]
    rw [Fr.get_cons, enterFr_get r]
    by_cases h : i = t
    · subst h; simp
    · rw [if_neg h]
      by_cases h2 : i ≤ t
      · rw [if_pos h2, if_pos (by omega)]
        rw [show t - i = (t - (i + 1)) + 1 by omega, List.getD_cons_succ]
      · rw [if_neg h2, if_neg (by omega)]

theorem enter_rel {r : Rl} {w : World} {vs : Array Value} {as : List AV} {n : Nat} (h : VRels r w vs as) (hn : as.length ≤ n) :
    FRel r w n (enterFr 0 as) { tmps := vs ++ Array.replicate (n - vs.size) undef, defers := [] } := by
  refine ⟨by simp [h.1]; omega, fun t => ?_, fun vs hm => ?_⟩
  case refine_2 =>
    rw [enterFr_get, if_pos (Nat.zero_le _), Nat.sub_zero] at hm
    simp [List.getD, List.getElem?_eq_none hn] at hm
  rw [enterFr_get, if_pos (Nat.zero_le _), Nat.sub_zero]
  by_cases ht : t < as.length
  · have h1 := h.2 t ht
    have h2 : t < vs.size := by rw [h.1]; exact ht
    have h3 : as.getD t .top = as[t] := by simp [List.getD, ht]
    rw [h3]
    have h4 : (vs ++ Array.replicate (n - vs.size) undef).getD t undef = vs.getD t undef := by
      simp only [Array.getD_eq_getD_getElem?]
      rw [Array.getElem?_append_left h2]
    simp only [h4]
    exact h1
  · have h3 : as.getD t .top = .top := by simp [List.getD, Nat.le_of_not_lt ht]
    rw [h3]
    exact .top

/-- What a function's results are. -/
def resOne (cx : Cx) (fr : Fr) (σ : Heap) : ResultVar → Option (List Prop × AV)
  | .tmp t => some ([], fr.get t)
  | .cell a t => match fr.get a with
    | .ptr id ver off => match boxAt σ id with
      | some (cur, cs, _) => match aLoad cx.P t (cs.drop off) with
        | some v => some ([ver = cur], v)
        | none => none
      | none => none
    | _ => none

def resAll (cx : Cx) (fr : Fr) (σ : Heap) : List ResultVar → Option (List Prop × List AV)
  | [] => some ([], [])
  | x :: r => match resOne cx fr σ x with
    | some (C, v) => match resAll cx fr σ r with
      | some (D, vs) => some (C ++ D, v :: vs)
      | none => none
    | none => none

def tupOf : List AV → AV
  | [v] => v
  | vs => .tup vs

def resF (a : Act) : ResultVar → Sem Value
  | .tmp t => pure (a.tmps.getD t undef)
  | .cell b t => do loadVar t (← asAddr (a.tmps.getD b undef))

theorem resOne_run {cx : Cx} {r : Rl} {σ : Heap} {w : World} {n : Nat} {fr : Fr} {a : Act} {x : ResultVar} {C : List Prop} {v : AV} (hi : Inv cx r σ w) (hf : FRel r w n fr a) (h : resOne cx fr σ x = some (C, v)) (hC : AllP C) :
    ∃ v', (resF a x).run cx.P w = .ok v' w ∧ VRel r w v' v := by
  cases x with
  | tmp t =>
    simp only [resOne, Option.some.injEq, Prod.mk.injEq] at h
    obtain ⟨rfl, rfl⟩ := h
    exact ⟨_, rfl, hf.get t⟩
  | cell b t =>
    simp only [resOne] at h
    have hb := hf.get b
    split at h
    case h_2 => cases h
    rename_i id ver off hbe
    rw [hbe] at hb
    split at h
    case h_2 => cases h
    rename_i cur cs ro hbx
    split at h
    case h_2 => cases h
    rename_i u hl
    simp only [Option.some.injEq, Prod.mk.injEq] at h
    obtain ⟨rfl, rfl⟩ := h
    generalize hz : a.tmps.getD b undef = z at hb
    cases hb
    rename_i b' o hρ
    obtain ⟨v', h1, h2⟩ := aLoad_run (P := cx.P) ((hi.cells hbx hC.1 hρ).cells'.drop off) hl
    exact ⟨v', by simp only [resF, Sem.run_bind]; rw [hz]; simp only [asAddr, Sem.run_pure, Result.andThen_ok]; exact h1, h2⟩

theorem resAll_run {cx : Cx} {r : Rl} {σ : Heap} {w : World} {n : Nat} {fr : Fr} {a : Act} (hi : Inv cx r σ w) (hf : FRel r w n fr a) : ∀ {xs : List ResultVar} {C : List Prop} {vs : List AV}, resAll cx fr σ xs = some (C, vs) → AllP C →
    ∃ vs' : List Value, (xs.mapM (resF a)).run cx.P w = .ok vs' w ∧ vs'.length = vs.length ∧ ∀ i (h : i < vs.length) (h' : i < vs'.length), VRel r w vs'[i] vs[i]
  | [], C, vs, h, hC => by
    simp only [resAll, Option.some.injEq, Prod.mk.injEq] at h
    obtain ⟨rfl, rfl⟩ := h
    exact ⟨[], rfl, rfl, fun i h => absurd h (by simp)⟩
  | x :: xs, C, vs, h, hC => by
    simp only [resAll] at h
    split at h
    case h_2 => cases h
    rename_i C1 v h1
    split at h
    case h_2 => cases h
    rename_i D us h2
    simp only [Option.some.injEq, Prod.mk.injEq] at h
    obtain ⟨rfl, rfl⟩ := h
    obtain ⟨hC1, hD⟩ := AllP_append hC
    obtain ⟨v', k1, k2⟩ := resOne_run hi hf h1 hC1
    obtain ⟨us', k3, k4, k5⟩ := resAll_run hi hf h2 hD
    refine ⟨v' :: us', ?_, by simp [k4], fun i h h' => ?_⟩
    · simp only [List.mapM_cons, Sem.run_bind]
      rw [k1]
      simp only [Result.andThen_ok]
      rw [k3]
      rfl
    · cases i with
      | zero => exact k2
      | succ i => simpa using k5 i (by simpa using h) (by simpa using h')

theorem results_run {cx : Cx} {r : Rl} {σ : Heap} {w : World} {n : Nat} {fr : Fr} {a : Act} {fn : Func} {C : List Prop} {vs : List AV} (hi : Inv cx r σ w) (hf : FRel r w n fr a) (h : resAll cx fr σ fn.results.toList = some (C, vs)) (hC : AllP C) :
    ∃ v', (results fn a.tmps).run cx.P w = .ok v' w ∧ VRel r w v' (tupOf vs) := by
  obtain ⟨vs', h1, h2, h3⟩ := resAll_run hi hf h hC
  have hm : (fn.results.mapM (resF a)).run cx.P w = .ok vs'.toArray w := by
    rw [← Array.toList_mapM] at h1
    simp only [Sem.run_map] at h1
    revert h1
    generalize (fn.results.mapM (resF a)).run cx.P w = q
    intro h1
    cases q with
    | ok a w' =>
      simp only [Result.andThen_ok, Result.ok.injEq] at h1
      obtain ⟨rfl, rfl⟩ := h1
      simp
    | halt => simp at h1
  refine ⟨if h : vs'.toArray.size = 1 then vs'.toArray[0] else .tuple vs'.toArray, ?_, ?_⟩
  · have hres : results fn a.tmps = (do let vs ← fn.results.mapM (resF a); pure (if h : vs.size = 1 then vs[0] else .tuple vs)) := by
      unfold results
      have : (fun x => match x with | ResultVar.tmp t => pure (a.tmps.getD t undef) | ResultVar.cell b t => do loadVar t (← asAddr (a.tmps.getD b undef)) : ResultVar → Sem Value) = resF a := by funext x; cases x <;> rfl
      rw [← this]
      rfl
    rw [hres]
    simp only [Sem.run_bind, hm, Result.andThen_ok, Sem.run_pure]
  · by_cases h1 : vs'.toArray.size = 1
    · rw [dif_pos h1]
      have hl : vs'.length = 1 := by simpa using h1
      match vs, h2, h3 with
      | [v], _, h3 => simpa [tupOf] using h3 0 (by simp) (by omega)
      | [], h2, _ => exact absurd (hl.symm.trans h2) (by simp)
      | _ :: _ :: _, h2, _ => exact absurd (hl.symm.trans h2) (by simp)
    · rw [dif_neg h1]
      have hl : vs'.length ≠ 1 := by simpa using h1
      have ht : tupOf vs = .tup vs := by
        unfold tupOf
        split
        · simp at h2; omega
        · rfl
      rw [ht]
      refine .tup (by simp [h2]) (fun i hi => ?_)
      have := h3 i hi (by omega)
      rw [getD_of_lt _ _ _ (by simp; omega)]
      simpa using this

def retQ (cx : Cx) (fn : Func) (R : Out → Heap → Prop) : Post := fun e fr σ =>
  match e with
  | .normal => ∃ C vs, resAll cx fr σ fn.results.toList = some (C, vs) ∧ AllP C ∧ R (.ret (tupOf vs)) σ
  | .ret => ∃ C vs, resAll cx fr σ fn.results.toList = some (C, vs) ∧ AllP C ∧ R (.ret (tupOf vs)) σ
  | .panic v => R (.panic v) σ
  | _ => False

theorem callOk_intro {cx : Cx} {f : FuncId} {fn : Func} {c : Code} {n : Nat} {args : List AV} {σ : Heap} {R : Out → Heap → Prop} (he : Enters cx.P f) (hf : cx.P.funcs[f]? = some fn) (hb : fn.body = some c) (hn : fn.ntmps = n) (ha : Nat.ble args.length n = true)
    (h : ∀ B, S cx n B [.code c] (retQ cx fn R) (enterFr 0 args) σ) : CallOk cx f args σ R := by
  refine ⟨he, fun r w vs hi hv => ?_⟩
  subst hn
  refine calls_of_wp hf hb ?_
  have hwp := h ⟨r, σ, w, false⟩ r _ w hi (enter_rel hv (Nat.le_of_ble_eq_true ha)) (fun _ => rfl) (Ext.refl _ _ _)
  refine wp_mono hwp fun e a w' hq => ?_
  obtain ⟨ae, fr', σ', r', hq, he, hi', hf', hd', hx'⟩ := hq
  cases e <;> cases ae <;> first | exact he.elim | skip
  · obtain ⟨C, us, h1, h2, h3⟩ := hq
    obtain ⟨v', h4, h5⟩ := results_run (fn := fn) hi' hf' h1 h2
    exact ⟨hd' rfl, v', h4, _, σ', r', h3, h5, hi', hx'⟩
  · exact hq.elim
  · exact hq.elim
  · obtain ⟨C, us, h1, h2, h3⟩ := hq
    obtain ⟨v', h4, h5⟩ := results_run (fn := fn) hi' hf' h1 h2
    exact ⟨hd' rfl, v', h4, _, σ', r', h3, h5, hi', hx'⟩
  · exact ⟨hd' rfl, _, σ', r', hq, he, hi', hx'⟩

/-- The function and the arguments of a call. -/
def callA (cx : Cx) (fr : Fr) (o : Op) : Option (FuncId × List AV) :=
  match o with
  | .call { callee := .value f, args := args, .. } => match ev cx fr f with
    | .func (.func g) first captured => some (g, first ++ args.toList.map (ev cx fr) ++ captured)
    | _ => none
  | _ => none

theorem callA_go {cx : Cx} {r : Rl} {σ : Heap} {w : World} {n : Nat} {fr : Fr} {a : Act} {o : Oper} {f : FuncId} {args : List AV} (hi : Inv cx r σ w) (hf : FRel r w n fr a) (h : callA cx fr o.op = some (f, args)) :
    ∃ vs, (execOp a.eval o).run cx.P w = (callFunc f vs).run cx.P w ∧ VRels r w vs args := by
  have hev : ∀ x, VRel r w (a.eval x) (ev cx fr x) := fun x => ev_rel hi hf x
  obtain ⟨dst, op, ty, pos, aft, guard⟩ := o
  simp only at h
  unfold callA at h
  split at h
  case h_2 => cases h
  rename_i fo as ts
  have hfo := hev fo
  split at h
  case h_2 => cases h
  rename_i g first captured hfe
  rw [hfe] at hfo
  simp only [Option.some.injEq, Prod.mk.injEq] at h
  obtain ⟨rfl, rfl⟩ := h
  simp only [execOp, resolve, Sem.run_bind]
  generalize a.eval fo = z at hfo
  cases hfo with
  | func h1 h2 h3 h4 =>
    rename_i cf cc
    refine ⟨cf ++ as.map a.eval ++ cc, ?_, by simp [h1, h3], fun i hil => ?_⟩
    · simp only [Deferred.ofValue, Sem.run_pure, Result.andThen_ok, invoke]
    · simp only [List.length_append, List.length_map, Array.length_toList] at hil
      by_cases hi1 : i < first.length
      · have : (cf ++ as.map a.eval ++ cc).getD i undef = cf.getD i undef := by
          simp only [Array.getD_eq_getD_getElem?]
          rw [Array.getElem?_append_left (by simp [h1]; omega), Array.getElem?_append_left (by omega)]
        rw [this]
        simp only [List.append_assoc]
        rw [List.getElem_append_left hi1]
        exact h2 i hi1
      · by_cases hi2 : i < first.length + as.size
        · have : (cf ++ as.map a.eval ++ cc).getD i undef = a.eval (as[i - first.length]'(by omega)) := by
            simp only [Array.getD_eq_getD_getElem?]
            rw [Array.getElem?_append_left (by simp [h1]; omega), Array.getElem?_append_right (by omega), h1]
            rw [Array.getElem?_map, Array.getElem?_eq_getElem (by omega)]
            rfl
          rw [this]
          rw [List.getElem_append_left (by simp; omega), List.getElem_append_right (by omega)]
          simpa using hev _
        · have : (cf ++ as.map a.eval ++ cc).getD i undef = cc.getD (i - (first.length + as.size)) undef := by
            simp only [Array.getD_eq_getD_getElem?]
            rw [Array.getElem?_append_right (by simp [h1]; omega)]
            congr 2
            simp [h1]
          rw [this]
          rw [List.getElem_append_right (by simp; omega)]
          have h5 := h4 (i - (first.length + as.size)) (by omega)
          simpa using h5

theorem callA_run {cx : Cx} {r : Rl} {σ : Heap} {w : World} {n : Nat} {fr : Fr} {a : Act} {o : Oper} {f : FuncId} {args : List AV} (hi : Inv cx r σ w) (hf : FRel r w n fr a) (h : callA cx fr o.op = some (f, args)) (he : Enters cx.P f) :
    ∃ vs, (execOp a.eval o).run cx.P w = .ok (.enter f vs) w ∧ VRels r w vs args := by
  obtain ⟨vs, h1, h2⟩ := callA_go hi hf h
  exact ⟨vs, by rw [h1]; exact he _ _, h2⟩

section
variable {cx : Cx} {n : Nat} {B : Bs} {k : List AI} {Q : Post} {fr : Fr} {σ : Heap}

theorem S_call {all : Array Oper} {o : Oper} {l : List Oper} {K : List Nat} {f : FuncId} {args : List AV} {R : Out → Heap → Prop} (hg : guardA all o K fr = some true) (hc : callA cx fr o.op = some (f, args)) (hd : dstOk n o.dst = true)
    (hcall : CallOk cx f args σ R) (hr : ∀ v σ', R (.ret v) σ' → S cx n B (.ops all l K :: k) Q (setA o.dst v fr) σ') (hp : ∀ v σ', R (.panic v) σ' → Q (.panic v) fr σ') : S cx n B (.ops all (o :: l) K :: k) Q fr σ := by
  intro r a w hi hf hdf hx
  have hw := guardA_wanted (cx := cx) hf hg
  obtain ⟨vs, h1, h2⟩ := callA_run hi hf hc hcall.1
  unfold wpList
  rw [if_pos hw]
  refine .inl ?_
  unfold Oper.wp
  rw [h1, Oper.upon_enter]
  refine (hcall.2 r w vs hi h2).mono fun e w' ⟨out, σ', r', hR, ho, hi', hx'⟩ => ?_
  have hg' := hx'.grow hi
  cases e <;> cases out <;> first | exact ho.elim | skip
  · exact hr _ σ' hR r' _ w' hi' ((hf.mono hg').setA hd ho) (hdf.put _ _) (hx.trans hx')
  · refine Lift.mk (ae := .panic _) ?_ ho hi' (hf.mono hg') hdf (hx.trans hx')
    rw [after_panic]
    exact hp _ σ' hR

end

/-- A value that is handed on without its addresses: a slice in a box becomes its contents. -/
inductive Frz (st : Bool) (σ : Heap) : AV → AV → Prop
  | refl {a} (h : Free st a) : Frz st σ a a
  | nils {b fl sz} : Frz st σ .nils (.sl b fl sz [])
  | lend {b fl fl' sz xs} (hst : st = false) (hfl : fl' = true → fl = true) (hx : ∀ x ∈ xs, Free st x) : Frz st σ (.sl b fl sz xs) (.sl false fl' sz xs)
  | full {b fl sz xs} (hb : st = true → b = true) (hx : ∀ x ∈ xs, Free st x) : Frz st σ (.sl b fl sz xs) (.sl b false sz xs)
  | ms {id ver off len sz full cs ro xs} (hb : boxAt σ id = some (ver, cs, ro)) (hle : off + len * sz ≤ cs.length) (hx : (cs.drop off).take (len * sz) = xs.flatMap AV.cells) (hsz : ∀ x ∈ xs, x.cells.length = sz) (hl : xs.length = len)
      (hf : ∀ x ∈ xs, Free st x) : Frz st σ (.ms id ver off len sz full) (.sl st false sz xs)
  | agg {as bs} (hl : as.length = bs.length) (h : ∀ i (h : i < as.length) (h' : i < bs.length), Frz st σ as[i] bs[i]) : Frz st σ (.agg as) (.agg bs)
  | tup {as bs} (hl : as.length = bs.length) (h : ∀ i (h : i < as.length) (h' : i < bs.length), Frz st σ as[i] bs[i]) : Frz st σ (.tup as) (.tup bs)

theorem Cells.sl {r : Rl} {w : World} {st fl : Bool} {b o n cap sz : Nat} {xs : List AV} (hn : n = xs.length) (hc0 : n ≤ cap) (hf : fl = true → cap = n) (hI : r.I b) (hS : st = true → r.S b) (hsz : ∀ x ∈ xs, x.cells.length = sz) (hc : Cells r w b o (xs.flatMap AV.cells)) :
    VRel r w (.slice (some ⟨b, o, none⟩) n cap) (.sl st fl sz xs) := by
  have hall : ∀ e j, ∃ v, ∀ (he : e < xs.length) (hj : j < sz), w.cell? ⟨b, o + e * sz + j, none⟩ = some v ∧ ∀ hj' : j < (AV.cells (xs[e]'he)).length, VRel r w v ((AV.cells (xs[e]'he))[j]'hj') := by
    intro e j
    by_cases h : e < xs.length ∧ j < sz
    · have hk : e * sz + j < (xs.flatMap AV.cells).length := by
        rw [flatMap_cells_length hsz]
        have : e * sz + sz ≤ xs.length * sz := by rw [← Nat.succ_mul]; exact Nat.mul_le_mul_right _ h.1
        omega
      obtain ⟨v, q1, q2⟩ := hc _ hk
      refine ⟨v, fun he hj => ⟨by rw [Nat.add_assoc]; exact q1, fun hj' => ?_⟩⟩
      have hg := flatMap_cells_get hsz e j he hj
      rw [List.getElem?_eq_getElem hk, List.getElem?_eq_getElem hj'] at hg
      simp only [Option.some.injEq] at hg
      rw [← hg]
      exact q2
    · exact ⟨undef, fun he hj => absurd ⟨he, hj⟩ h⟩
  refine .sl hn hc0 hf hI hS hsz (fun e j => (hall e j).choose) (fun e he j hj => ((hall e j).choose_spec he hj).1) (fun e he j hj => ?_)
  have hj2 : j < sz := by rw [← hsz _ (List.getElem_mem he)]; exact hj
  exact ((hall e j).choose_spec he hj2).2 hj

theorem Frz.rel {cx : Cx} {st : Bool} {r r' : Rl} {σ : Heap} {w : World} (hi : Inv cx r σ w) (hS : ∀ b, r.S b → r'.S b) (hSI : ∀ b, r'.S b → r'.I b) (hI : st = false → ∀ b, r.I b → r'.I b)
    (hL : ∀ b, Live r σ b → r'.I b ∧ (st = true → r'.S b)) {a a' : AV} (hz : Frz st σ a a') : ∀ {v : Value}, VRel r w v a → VRel r' w v a' := by
  have hFree : ∀ {v : Value} {a : AV}, VRel r w v a → Free st a → VRel r' w v a := fun h hf => h.free hf hS hSI hI
  induction hz with
  | refl h => intro v hv; exact hFree hv h
  | nils => intro v hv; cases hv; exact .sl0 (fun _ => rfl)
  | lend hst hfl hx =>
    intro v hv
    cases hv with
    | sl0 h => exact .sl0 (fun h' => h (hfl h'))
    | sl hn hc0 hf' hI' hS' hsz f hc hvv =>
      exact .sl hn hc0 (fun h => hf' (hfl h)) (hI hst _ hI') (fun h => by cases h) hsz f hc (fun e he j hj => hFree (hvv e he j hj) ((hx _ (List.getElem_mem he)).cells _ (List.getElem_mem hj)))
  | full hb hx =>
    intro v hv
    cases hv with
    | sl0 h => exact .sl0 (fun h' => by cases h')
    | sl hn hc0 hf' hI' hS' hsz f hc hvv =>
      refine .sl hn hc0 (fun h => by cases h) ?_ (fun h => hS _ (hS' h)) hsz f hc (fun e he j hj => hFree (hvv e he j hj) ((hx _ (List.getElem_mem he)).cells _ (List.getElem_mem hj)))
      cases hst : st with
      | true => exact hSI _ (hS _ (hS' (hb hst)))
      | false => exact hI hst _ hI'
  | ms hb hle hx hsz hl hf =>
    intro v hv
    cases hv with
    | ms0 =>
      have := List.eq_nil_of_length_eq_zero hl
      subst this
      exact .sl0 (fun h => by cases h)
    | ms hρ hcap hn hff =>
      have hbr := hi.cells hb rfl hρ
      have hlive : Live r σ _ := ⟨_, _, _, _, boxAt_some hb, hρ⟩
      obtain ⟨k1, k2⟩ := hL _ hlive
      rename_i o0 off0 len0 sz0 _ cs0 _ xs0 b0 o1 cap0
      have hc := (hbr.cells'.drop off0).take (len0 * sz0)
      rw [hx] at hc
      refine Cells.sl hl.symm hn (fun h => by cases h) k1 k2 hsz (fun i hi => ?_)
      obtain ⟨u, q1, q2⟩ := hc i hi
      refine ⟨u, q1, hFree q2 ?_⟩
      have hm := List.getElem_mem hi
      obtain ⟨x, hx1, hx2⟩ := List.mem_flatMap.1 hm
      exact (hf x hx1).cells _ hx2
  | agg hl h ih =>
    intro v hv
    cases hv with
    | agg hn h2 => exact .agg (by omega) (fun i hi => ih i (by omega) hi (h2 i (by omega)))
  | tup hl h ih =>
    intro v hv
    cases hv with
    | tup hn h2 => exact .tup (by omega) (fun i hi => ih i (by omega) hi (h2 i (by omega)))

/-- A function that is handed nothing to change, and hands back nothing that may turn: whatever the heap is. -/
structure Calc (cx : Cx) (f : FuncId) (args : List AV) (res : AV) : Prop where
  free : Free true res
  call : CallOk cx f args [] (fun o σ' => o = .ret res ∧ σ' = [])

theorem Inv.empty {cx : Cx} {r : Rl} {σ : Heap} {w : World} (hi : Inv cx r σ w) : Inv cx { S := r.S, I := fun b => r.I b ∨ Live r σ b, ρ := fun _ _ => none } [] w := by
  refine ⟨fun id ver x h => (by simp at h), fun id ver b o h => (by cases h), fun id id' ver ver' x x' b o o' h => (by simp at h), ?_, ?_, fun b h => .inl (hi.SI b h), ?_⟩
  · rintro b ⟨id, ver, x, o, h, _⟩; simp at h
  · intro b hb
    rcases hb with hb | ⟨id, ver, x, o, h1, h2⟩
    · exact hi.Ilt b hb
    · exact (hi.lt _ _ _ _ h2).2
  · exact Globs.free (r' := { S := r.S, I := fun b => r.I b ∨ Live r σ b, ρ := fun _ _ => none }) hi.glob (fun b h => h) (fun b h => Or.inl (hi.SI b h))

end Go.Ab
end

section
set_option linter.unusedVariables false
set_option linter.unusedSimpArgs false
namespace Go.Ab
open Go

theorem calc_of {cx : Cx} {f : FuncId} {args : List AV} {res : AV} (hfree : Free true res)
    (h : CallOk cx f args [] (fun o σ' => ∃ v, o = .ret v ∧ Frz true σ' v res)) : Calc cx f args res := by
  refine ⟨hfree, h.1, fun r w vs hi hv => ?_⟩
  refine (h.2 r w vs hi hv).mono fun e w' ⟨o, σ', r', ⟨v, ho, hz⟩, hor, hi', hx'⟩ => ?_
  subst ho
  cases e with
  | returned u =>
    have hu : VRel r' w' u v := hor
    have hlt : ∀ id ver p, r.ρ id ver = some p → False := by
      intro id ver p hp
      obtain ⟨⟨cur, x, h1, _⟩, _⟩ := hi.lt id ver p.1 p.2 hp
      simp at h1
    have hnl : ∀ b, ¬ Live r [] b := by rintro b ⟨id, ver, x, o, h1, _⟩; simp at h1
    let r2 : Rl := { S := fun b => r'.S b ∨ Live r' σ' b, I := fun b => r.I b ∨ r'.S b ∨ Live r' σ' b, ρ := fun _ _ => none }
    have hsame : ∀ b, b < w.heap.size → w'.heap[b]? = w.heap[b]? := fun b hb => hx'.same b hb (hnl b)
    refine ⟨.ret res, [], r2, ⟨rfl, rfl⟩, ?_, ⟨fun id ver x h => (by simp at h), fun id ver b o h => (by cases h), fun id id' ver ver' x x' b o o' h => (by simp at h), ?_, ?_, fun b h => .inr h, ?_⟩, ⟨fun b h => .inl (hx'.S b h), fun b h => .inl h, ?_, ?_, fun id ver p hp => (hlt id ver p hp).elim, hx'.hs, Nat.le_refl _, fun b hb _ => hsame b hb, ?_, hx'.size, hx'.os, hx'.output, hx'.tape, fun id ver b o h => (by cases h)⟩⟩
    · exact hz.rel (r' := r2) hi' (fun b h => Or.inl h) (fun b h => Or.inr h) (fun h => by cases h) (fun b h => ⟨Or.inr (Or.inr h), fun _ => Or.inr h⟩) hu
    · rintro b ⟨id, ver, x, o, h, _⟩; simp at h
    · intro b hb
      rcases hb with hb | hb | hb
      · exact Nat.lt_of_lt_of_le (hi.Ilt b hb) hx'.hs
      · exact hi'.Ilt b (hi'.SI b hb)
      · obtain ⟨id, ver, x, o, h1, h2⟩ := hb
        exact (hi'.lt _ _ _ _ h2).2
    · exact hi'.glob.free (fun b h => .inl h) (fun b h => .inr h)
    · intro b hb
      rcases hb with hb | hb
      · exact hx'.Sf b hb
      · rcases hx'.liv b hb with h | h
        · exact absurd h (hnl b)
        · exact .inr h
    · intro b hb
      rcases hb with hb | hb | hb
      · exact .inl hb
      · rcases hx'.Sf b hb with h | h
        · exact .inl (hi.SI b h)
        · exact .inr (.inr h)
      · rcases hx'.liv b hb with h | h
        · exact absurd h (hnl b)
        · exact .inr (.inr h)
    · rintro b ⟨id, ver, x, o, h, _⟩; simp at h
  | panicked chain => exact hor.elim
  | outgrown => exact hor.elim

theorem pure_intro {cx : Cx} {f : FuncId} {fn : Func} {c : Code} {n : Nat} {args : List AV} {res : AV} (he : Enters cx.P f) (hf : cx.P.funcs[f]? = some fn) (hb : fn.body = some c) (hn : fn.ntmps = n) (ha : Nat.ble args.length n = true) (hfree : Free true res)
    (h : ∀ B, S cx n B [.code c] (retQ cx fn fun o σ' => ∃ v, o = .ret v ∧ Frz true σ' v res) (enterFr 0 args) []) : Calc cx f args res :=
  calc_of hfree (callOk_intro he hf hb hn ha h)

theorem after_pure {cx : Cx} {r r1 : Rl} {σ : Heap} {w w' : World} (hi : Inv cx r σ w) (hi1 : Inv cx r1 [] w') (hx : Ext { S := r.S, I := fun b => r.I b ∨ Live r σ b, ρ := fun _ _ => none } [] w r1 [] w') :
    Inv cx { S := r1.S, I := fun b => r.I b ∨ r1.S b, ρ := r.ρ } σ w' ∧ Ext r σ w { S := r1.S, I := fun b => r.I b ∨ r1.S b, ρ := r.ρ } σ w' := by
  have hsame : ∀ b, b < w.heap.size → w'.heap[b]? = w.heap[b]? := fun b hb => hx.same b hb (by rintro ⟨id, ver, x, o, h1, _⟩; simp at h1)
  have hSf : ∀ b, r1.S b → r.S b ∨ w.heap.size ≤ b := hx.Sf
  have g : Grow r w { S := r1.S, I := fun b => r.I b ∨ r1.S b, ρ := r.ρ } w' := ⟨hx.S, fun b h => .inl h, fun _ _ _ h => h, fun b hb => hsame b (hi.Ilt b hb), hx.size⟩
  refine ⟨⟨?_, ?_, hi.inj, ?_, ?_, fun b h => .inr h, ?_⟩, ⟨hx.S, fun b h => .inl h, hSf, ?_, fun _ _ _ h => h, hx.hs, Nat.le_refl _, fun b hb _ => hsame b hb, fun b h => .inl h, hx.size, hx.os, hx.output, hx.tape, fun id ver b o h => .inl ⟨ver, o, h⟩⟩⟩
  · intro id ver x hid
    rcases hi.box id ver x hid with ⟨b, o, h1, h2⟩ | h1
    · exact .inl ⟨b, o, h1, h2.mono g (hsame b h2.lt)⟩
    · exact .inr h1
  · intro id ver b o h
    obtain ⟨h1, h2⟩ := hi.lt id ver b o h
    exact ⟨h1, Nat.lt_of_lt_of_le h2 hx.hs⟩
  · rintro b hl hb
    have hbl : b < w.heap.size := by obtain ⟨id, ver, x, o, h1, h2⟩ := hl; exact (hi.lt _ _ _ _ h2).2
    rcases hb with hb | hb
    · exact hi.imm b hl hb
    · rcases hSf b hb with h | h
      · exact hi.imm b hl (hi.SI b h)
      · omega
  · intro b hb
    rcases hb with hb | hb
    · exact Nat.lt_of_lt_of_le (hi.Ilt b hb) hx.hs
    · exact hi1.Ilt b (hi1.SI b hb)
  · exact hi1.glob.free (fun b h => h) (fun b h => .inr h)
  · intro b hb
    rcases hb with hb | hb
    · exact .inl hb
    · rcases hSf b hb with h | h
      · exact .inl (hi.SI b h)
      · exact .inr (.inr h)

/-- Arguments that are handed on. -/
def Frzs (σ : Heap) (as bs : List AV) : Prop := as.length = bs.length ∧ ∀ i (h : i < as.length) (h' : i < bs.length), Frz false σ as[i] bs[i]

theorem Frzs.nil (σ : Heap) : Frzs σ [] [] := ⟨rfl, fun i h => absurd h (by simp)⟩
theorem Frzs.cons {σ : Heap} {a b : AV} {as bs : List AV} (h : Frz false σ a b) (hs : Frzs σ as bs) : Frzs σ (a :: as) (b :: bs) := by
  refine ⟨by simp [hs.1], fun i h1 h2 => ?_⟩
  cases i with
  | zero => exact h
  | succ i => simpa using hs.2 i (by simpa using h1) (by simpa using h2)

section
variable {cx : Cx} {n : Nat} {B : Bs} {k : List AI} {Q : Post} {fr : Fr} {σ : Heap}

theorem S_pure {all : Array Oper} {o : Oper} {l : List Oper} {K : List Nat} {f : FuncId} {args args' : List AV} {res : AV} (hc : callA cx fr o.op = some (f, args)) (hg : guardA all o K fr = some true) (hd : dstOk n o.dst = true)
    (hp : Calc cx f args' res) (hz : Frzs σ args args') (hk : S cx n B (.ops all l K :: k) Q (setA o.dst res fr) σ) : S cx n B (.ops all (o :: l) K :: k) Q fr σ := by
  intro r a w hi hf hdf hx
  have hw := guardA_wanted (cx := cx) hf hg
  obtain ⟨vs, h1, h2⟩ := callA_run hi hf hc hp.call.1
  unfold wpList
  rw [if_pos hw]
  refine .inl ?_
  unfold Oper.wp
  rw [h1, Oper.upon_enter]
  have hvs : VRels { S := r.S, I := fun b => r.I b ∨ Live r σ b, ρ := fun _ _ => none } w vs args' := by
    refine ⟨h2.1.trans hz.1, fun i hi' => ?_⟩
    exact (hz.2 i (by rw [hz.1]; exact hi') hi').rel (r' := { S := r.S, I := fun b => r.I b ∨ Live r σ b, ρ := fun _ _ => none }) hi (fun b h => h) (fun b h => Or.inl (hi.SI b h)) (fun _ b h => Or.inl h) (fun b h => ⟨Or.inr h, fun h => by cases h⟩) (h2.2 i (by rw [hz.1]; exact hi'))
  refine (hp.call.2 _ w vs hi.empty hvs).mono fun e w' ⟨out, σ', r1, ⟨ho, hσ'⟩, hor, hi1, hx1⟩ => ?_
  subst ho; subst hσ'
  cases e with
  | returned u =>
    obtain ⟨hi2, hx2⟩ := after_pure hi hi1 hx1
    have hu : VRel r1 w' u res := hor
    exact hk _ _ w' hi2 ((hf.mono (hx2.grow hi)).setA hd (hu.free hp.free (fun b h => h) (fun b h => .inr h) (fun h => by cases h))) (hdf.put _ _) (hx.trans hx2)
  | panicked chain => exact hor.elim
  | outgrown => exact hor.elim

/-- An operation whose outcome is shown by hand. -/
theorem S_do {all : Array Oper} {o : Oper} {l : List Oper} {K : List Nat} {v : AV} {σ' : Heap} (hg : guardA all o K fr = some true) (hd : dstOk n o.dst = true)
    (h : ∀ r a w, Inv cx r σ w → FRel r w n fr a → OpRes cx r σ w ((execOp a.eval o).run cx.P w) v σ') (hk : S cx n B (.ops all l K :: k) Q (setA o.dst v fr) σ') : S cx n B (.ops all (o :: l) K :: k) Q fr σ := by
  intro r a w hi hf hdf hx
  have hw := guardA_wanted (cx := cx) hf hg
  obtain ⟨r', w', v', hrun, hv, hi', hx'⟩ := h r a w hi hf
  unfold wpList
  rw [if_pos hw]
  refine .inl ?_
  unfold Oper.wp
  have hf' : FRel r' w' n (setA o.dst v fr) (a.put o.dst v') := (hf.mono (hx'.grow hi)).setA hd hv
  have hgo := hk r' (a.put o.dst v') w' hi' hf' (hdf.put _ _) (hx.trans hx')
  rcases hrun with hrun | ⟨hrun, hu⟩
  · rw [hrun]; exact hgo
  · rw [hrun]; subst hu; exact hgo

def mulN (j : Nat) (n : Nat) : Nat := match n with | 1 => j | n => j * n
def offN (off : Nat) (x : Nat) : Nat := match off with | 0 => x | off => off + x
theorem mulN_eq (j n : Nat) : mulN j n = j * n := by unfold mulN; split <;> simp
theorem offN_eq (a b : Nat) : offN a b = a + b := by unfold offN; split <;> simp

/-- The address of an element. -/
def idxA (cx : Cx) (fr : Fr) (σ : Heap) (o : Op) (x : AV) : Option (List Prop × AV) :=
  match o with
  | .indexAddr t s i => match cx.P.underlying t, ev cx fr i with
    | some (.slice e), .int _ j => match szOf cx.P e, ev cx fr s with
      | some n, .sl st _ sz xs => some ([sz = n, 0 ≤ j, xs[j.toNat]? = some x], .rp st x.cells)
      | some n, .ms id ver off len sz _ => some ([sz = n, 0 ≤ j, j < len], .eptr id ver (offN off (mulN j.toNat n)))
      | _, _ => none
    | some (.array len e), .int _ j => match szOf cx.P e, ev cx fr s with
      | some n, .ptr id ver off => some ([0 ≤ j, j < len], .eptr id ver (offN off (mulN j.toNat n)))
      | some n, .eptr id ver off => some ([0 ≤ j, j < len], .eptr id ver (offN off (mulN j.toNat n)))
      | some n, .rp st cs => some ([0 ≤ j, j < len, (cs.drop (j.toNat * n)).take n = x.cells], .rp st x.cells)
      | _, _ => none
    | _, _ => none
  | _ => none

theorem idxA_run {cx : Cx} {r : Rl} {σ : Heap} {w : World} {n : Nat} {fr : Fr} {a : Act} {o : Oper} {x : AV} {C : List Prop} {v : AV} (hi : Inv cx r σ w) (hf : FRel r w n fr a) (h : idxA cx fr σ o.op x = some (C, v)) (hC : AllP C) :
    OpRes cx r σ w ((execOp a.eval o).run cx.P w) v σ := by
  have he : ∀ x, VRel r w (a.eval x) (ev cx fr x) := fun x => ev_rel hi hf x
  obtain ⟨dst, op, ty, pos, aft, guard⟩ := o
  simp only at h
  have q : ∀ {s : Sem Value}, (∃ v', s.run cx.P w = .ok v' w ∧ VRel r w v' v) → OpRes cx r σ w ((do let x ← s; pure (Next.value x) : Sem Next).run cx.P w) v σ := by
    rintro s ⟨v', h1, h2⟩
    exact ⟨r, w, v', .inl (exec_v h1), h2, hi, Ext.refl _ _ _⟩
  unfold idxA at h
  split at h
  case h_2 => cases h
  rename_i t s i
  have hs := he s
  have hj := he i
  unfold execOp
  refine q ?_
  try simp only
  generalize a.eval s = s' at hs ⊢
  generalize a.eval i = i' at hj ⊢
  split at h
  · rename_i e kk j hu hje
    rw [hje] at hj
    cases hj
    split at h
    · rename_i m st fl sz xs hm hse
      rw [hse] at hs
      simp only [Option.some.injEq, Prod.mk.injEq] at h; obtain ⟨rfl, rfl⟩ := h
      obtain ⟨hsz, h0, hx, _⟩ := hC
      subst hsz
      have hlt : j.toNat < xs.length := by
        rcases Nat.lt_or_ge j.toNat xs.length with h | h
        · exact h
        · rw [List.getElem?_eq_none h] at hx; cases hx
      have hxe : xs[j.toNat] = x := by rw [List.getElem?_eq_getElem hlt] at hx; exact Option.some.inj hx
      cases s' with
      | slice ao nn cap =>
        cases hs with
        | sl0 => simp at hlt
        | sl hn hc0 hff hI hS hszz f hc hv =>
          rename_i b o'
          subst hn
          have hjl : j < (xs.length : Int) := by omega
          refine ⟨.pointer (some ⟨b, o' + j.toNat * sz, none⟩), ?_, ?_⟩
          · simp only [Instr.indexAt, asIntOf, Sem.run_bind, Sem.run_pure, Result.andThen_ok, run_underlying hu, run_sizeOf' hm]
            rw [if_pos ⟨h0, hjl⟩]
            simp only [Sem.run_bind, run_sizeOf' hm, Result.andThen_ok, Sem.run_pure, Addr.add_lit]
          · refine Cells.rp hI hS (fun q hq => ?_)
            have hlen := hszz x (hxe ▸ List.getElem_mem hlt)
            have hq' : q < (AV.cells (xs[j.toNat]'hlt)).length := by rw [hxe]; exact hq
            refine ⟨f j.toNat q, hc _ hlt _ (by omega), ?_⟩
            have := hv _ hlt q hq'
            simpa [hxe] using this
      | _ => cases hs
    · rename_i m id ver off len sz fl hm hse
      rw [hse] at hs
      simp only [Option.some.injEq, Prod.mk.injEq, offN_eq, mulN_eq] at h; obtain ⟨rfl, rfl⟩ := h
      obtain ⟨hsz, h0, hl, _⟩ := hC
      subst hsz
      cases hs with
      | ms0 => simp at hl; omega
      | ms hρ hcap hn hff =>
        rename_i b o' cap
        refine ⟨.pointer (some ⟨b, o' + off + j.toNat * sz, none⟩), ?_, by rw [Nat.add_assoc]; exact .eptr hρ⟩
        simp only [Instr.indexAt, asIntOf, Sem.run_bind, Sem.run_pure, Result.andThen_ok, run_underlying hu, run_sizeOf' hm]
        rw [if_pos ⟨h0, hl⟩]
        simp only [Sem.run_bind, run_sizeOf' hm, Result.andThen_ok, Sem.run_pure, Addr.add_lit]
    · cases h
  · rename_i len e kk j hu hje
    rw [hje] at hj
    cases hj
    have hrun : ∀ (m b o' : Nat), szOf cx.P e = some m → 0 ≤ j → j < (len : Int) → (Instr.indexAt t (.pointer (some ⟨b, o', none⟩)) (.int kk j)).run cx.P w = .ok (.pointer (some ⟨b, o' + j.toNat * m, none⟩)) w := by
      intro m b o' hm h0 hl
      simp only [Instr.indexAt, asIntOf, Sem.run_bind, Sem.run_pure, Result.andThen_ok, run_underlying hu, Instr.sureAddr]
      rw [if_pos ⟨h0, hl⟩]
      simp only [Sem.run_bind, run_sizeOf' hm, Result.andThen_ok, Sem.run_pure, Addr.add_lit]
    split at h
    · rename_i m id ver off hm hse
      rw [hse] at hs
      simp only [Option.some.injEq, Prod.mk.injEq, offN_eq, mulN_eq] at h; obtain ⟨rfl, rfl⟩ := h
      obtain ⟨h0, hl, _⟩ := hC
      cases hs
      rename_i b o' hρ
      exact ⟨_, hrun m b (o' + off) hm h0 hl, by rw [Nat.add_assoc]; exact .eptr hρ⟩
    · rename_i m id ver off hm hse
      rw [hse] at hs
      simp only [Option.some.injEq, Prod.mk.injEq, offN_eq, mulN_eq] at h; obtain ⟨rfl, rfl⟩ := h
      obtain ⟨h0, hl, _⟩ := hC
      cases hs
      rename_i b o' hρ
      exact ⟨_, hrun m b (o' + off) hm h0 hl, by rw [Nat.add_assoc]; exact .eptr hρ⟩
    · rename_i m st cs hm hse
      rw [hse] at hs
      simp only [Option.some.injEq, Prod.mk.injEq] at h; obtain ⟨rfl, rfl⟩ := h
      obtain ⟨h0, hl, hx, _⟩ := hC
      cases s' <;> try (cases hs; done)
      obtain ⟨b, o', rfl, h1, h2, hc⟩ := Cells.of_rp hs
      refine ⟨_, hrun m b o' hm h0 hl, Cells.rp h1 h2 ?_⟩
      rw [← hx]
      exact (hc.drop _).take _
    · cases h
  · cases h

theorem S_index {all : Array Oper} {o : Oper} {l : List Oper} {K : List Nat} {C : List Prop} {v : AV} (x : AV) (h : idxA cx fr σ o.op x = some (C, v)) (hg : guardA all o K fr = some true) (hd : dstOk n o.dst = true) (hC : AllP C)
    (hk : S cx n B (.ops all l K :: k) Q (setA o.dst v fr) σ) : S cx n B (.ops all (o :: l) K :: k) Q fr σ :=
  S_do hg hd (fun r a w hi hf => idxA_run hi hf h hC) hk

/-- A load, its conditions said instead of tried. -/
def loadA (cx : Cx) (fr : Fr) (σ : Heap) (o : Op) (x : AV) : Option (List Prop) :=
  match o with
  | .load t a => match aggT cx.P t, szOf cx.P t with
    | some ag, some m => match ev cx fr a with
      | .eptr id ver off => match boxAt σ id with
        | some (cur, cs, _) => some ((ver = cur) :: loadC ag m (cs.drop off) x)
        | none => none
      | .ptr id ver off => match boxAt σ id with
        | some (cur, cs, _) => some ((ver = cur) :: loadC ag m (cs.drop off) x)
        | none => none
      | .rp _ cs => some (loadC ag m cs x)
      | _ => none
    | _, _ => none
  | _ => none
where loadC (ag : Bool) (m : Nat) (cs : List AV) (x : AV) : List Prop := match ag with
  | true => [m ≤ cs.length, x = .agg (cs.take m)]
  | false => [cs[0]? = some x]

theorem loadC_run {P : Program} {t : TypeId} {ag : Bool} {m : Nat} {cs : List AV} {x : AV} (ha : aggT P t = some ag) (hm : szOf P t = some m) (h : AllP (loadA.loadC ag m cs x)) : aLoad P t cs = some x := by
  cases ag with
  | true =>
    obtain ⟨h1, rfl, _⟩ := h
    simp only [aLoad, ha, hm, Nat.ble_eq_true_of_le h1, cond_true]
  | false =>
    obtain ⟨h1, _⟩ := h
    cases cs with
    | nil => simp at h1
    | cons y r => simp at h1; subst h1; simp [aLoad, ha]

theorem loadA_run {r : Rl} {w : World} {a : Act} {o : Oper} {C : List Prop} {x : AV} (hi : Inv cx r σ w) (hf : FRel r w n fr a) (h : loadA cx fr σ o.op x = some C) (hC : AllP C) : OpRes cx r σ w ((execOp a.eval o).run cx.P w) x σ := by
  have he : ∀ x, VRel r w (a.eval x) (ev cx fr x) := fun x => ev_rel hi hf x
  obtain ⟨dst, op, ty, pos, aft, guard⟩ := o
  simp only at h
  unfold loadA at h
  split at h
  case h_2 => cases h
  rename_i t s
  have hs := he s
  split at h
  case h_2 => cases h
  rename_i ag m hag hm
  have key : ∀ {id ver off cur b o' : Nat} {cs : List AV} {ro : Tag}, boxAt σ id = some (cur, cs, ro) → AllP ((ver = cur) :: loadA.loadC ag m (cs.drop off) x) → r.ρ id ver = some (b, o') → a.eval s = .pointer (some ⟨b, o' + off, none⟩) → OpRes cx r σ w ((execOp a.eval ⟨dst, .load t s, ty, pos, aft, guard⟩).run cx.P w) x σ := by
    intro id ver off cur b o' cs ro hb hC hρ hse
    unfold execOp
    try simp only
    rw [hse]
    obtain ⟨v', h1, h2⟩ := aLoad_run (P := cx.P) ((hi.cells hb hC.1 hρ).cells'.drop off) (loadC_run hag hm hC.2)
    exact ⟨r, w, v', .inl (exec_v (by simpa [Instr.loadAt, Instr.sureAddr] using h1)), h2, hi, Ext.refl _ _ _⟩
  split at h
  · rename_i id ver off hse
    rw [hse] at hs
    split at h
    case h_2 => cases h
    rename_i cur cs ro hb
    simp only [Option.some.injEq] at h; subst h
    generalize hz : a.eval s = z at hs
    cases hs
    rename_i b o' hρ
    exact key hb hC hρ hz
  · rename_i id ver off hse
    rw [hse] at hs
    split at h
    case h_2 => cases h
    rename_i cur cs ro hb
    simp only [Option.some.injEq] at h; subst h
    generalize hz : a.eval s = z at hs
    cases hs
    rename_i b o' hρ
    exact key hb hC hρ hz
  · rename_i st cs hse
    rw [hse] at hs
    simp only [Option.some.injEq] at h; subst h
    unfold execOp
    try simp only
    generalize hz : a.eval s = z at hs
    cases z <;> try (cases hs; done)
    obtain ⟨b, o', rfl, h1, h2, hc⟩ := Cells.of_rp hs
    obtain ⟨v', h3, h4⟩ := aLoad_run (P := cx.P) hc (loadC_run hag hm hC)
    exact ⟨r, w, v', .inl (exec_v (by simpa [Instr.loadAt, Instr.sureAddr] using h3)), h4, hi, Ext.refl _ _ _⟩
  · cases h

theorem S_load {all : Array Oper} {o : Oper} {l : List Oper} {K : List Nat} {C : List Prop} (x : AV) (h : loadA cx fr σ o.op x = some C) (hg : guardA all o K fr = some true) (hd : dstOk n o.dst = true) (hC : AllP C)
    (hk : S cx n B (.ops all l K :: k) Q (setA o.dst x fr) σ) : S cx n B (.ops all (o :: l) K :: k) Q fr σ :=
  S_do hg hd (fun r a w hi hf => loadA_run hi hf h hC) hk

/-- A store, its conditions said instead of tried. -/
def storeA (cx : Cx) (fr : Fr) (σ : Heap) (o : Op) : Option (List Prop × Heap) :=
  match o with
  | .store t a x => match szOf cx.P t with
    | some m => match ev cx fr a with
      | .eptr id ver off => match σ[id]? with
        | some (cur, some (.cells cs ⟨false, gT⟩)) => some ([(ev cx fr x).cells.length = m, allOne (ev cx fr x).cells = true, ver = cur, off + m ≤ cs.length], σ.set id (cur, some (.cells (setRange cs off (ev cx fr x).cells) ⟨false, gT⟩)))
        | _ => none
      | .ptr id ver off => match σ[id]? with
        | some (cur, some (.cells cs ⟨false, gT⟩)) => some ([(ev cx fr x).cells.length = m, allOne (ev cx fr x).cells = true, ver = cur, off + m ≤ cs.length], σ.set id (cur, some (.cells (setRange cs off (ev cx fr x).cells) ⟨false, gT⟩)))
        | _ => none
      | _ => none
    | none => none
  | _ => none

theorem S_store {all : Array Oper} {o : Oper} {l : List Oper} {K : List Nat} {C : List Prop} {σ' : Heap} (h : storeA cx fr σ o.op = some (C, σ')) (hg : guardA all o K fr = some true) (hd : dstOk n o.dst = true) (hC : AllP C)
    (hk : S cx n B (.ops all l K :: k) Q (setA o.dst (.tup []) fr) σ') : S cx n B (.ops all (o :: l) K :: k) Q fr σ := by
  refine S_do hg hd (fun r a w hi hf => ?_) hk
  have he : ∀ x, VRel r w (a.eval x) (ev cx fr x) := fun x => ev_rel hi hf x
  obtain ⟨dst, op, ty, pos, aft, guard⟩ := o
  simp only at h
  unfold storeA at h
  split at h
  case h_2 => cases h
  rename_i t s x
  have hs := he s
  have hx := he x
  split at h
  case h_2 => cases h
  rename_i m hm
  split at h
  case h_3 => cases h
  all_goals
    rename_i id ver off hse
    rw [hse] at hs
    split at h
    case h_2 => cases h
    rename_i cur cs hσ
    simp only [Option.some.injEq, Prod.mk.injEq] at h; obtain ⟨rfl, rfl⟩ := h
    obtain ⟨h1, h2, h3, h4, _⟩ := hC
    unfold execOp
    try simp only
    generalize hz : a.eval s = z at hs
    cases hs
    rename_i b o' hρ
    obtain ⟨w', r', k1, k2, k3⟩ := store_main hi hm hσ h3 h4 h1 (allOne_mem h2) hx hρ
    refine ⟨r', w', undef, .inr ⟨?_, rfl⟩, .tup rfl (fun i h => absurd h (by simp)), k2, k3⟩
    simp [Instr.storeAt, Instr.sureAddr, k1]

/-- A panic of the text's own. -/
theorem S_panic {all : Array Oper} {o : Oper} {l : List Oper} {K : List Nat} {x : Operand} {t : TypeId} {v : AV} (ho : o.op = .panic x) (hx : ev cx fr x = .iface t v) (hg : guardA all o K fr = some true) (hk : Q (.panic (.iface t v)) fr σ) :
    S cx n B (.ops all (o :: l) K :: k) Q fr σ := by
  intro r a w hi hf hdf hxx
  have hw := guardA_wanted (cx := cx) hf hg
  have hv := ev_rel hi hf x
  rw [hx] at hv
  unfold wpList
  rw [if_pos hw]
  refine .inl ?_
  unfold Oper.wp
  have hrun : ∃ u, (execOp a.eval o).run cx.P w = .halt (.panic u) w ∧ VRel r w u (.iface t v) := by
    obtain ⟨dst, op, ty, pos, aft, guard⟩ := o
    simp only at ho
    subst ho
    refine ⟨a.eval x, ?_, hv⟩
    unfold execOp
    try simp only
    generalize a.eval x = z at hv ⊢
    cases hv with
    | iface h => simp [Instr.panic]
  obtain ⟨u, h1, h2⟩ := hrun
  rw [h1, Oper.upon_panic]
  refine Lift.mk (ae := .panic _) ?_ ⟨u, rfl, h2⟩ hi hf hdf hxx
  rw [after_panic]
  exact hk

end
end Go.Ab
end

section
set_option linter.unusedVariables false
set_option linter.unusedSimpArgs false
namespace Go.Ab
open Go

theorem w64 {x : Int} {k : Nat} (h : x = k) (hk : k ≤ 9223372036854775807) : IntKind.i64.wrap x = k := by rw [h, IntWalk.i64_in _ ⟨by omega, by omega⟩]
theorem wu32 {x : Int} {k : Nat} (h : x = k) (hk : k ≤ 4294967295) : IntKind.u32.wrap x = k := by rw [h, IntWalk.u32_in _ ⟨by omega, by omega⟩]
theorem wu8 {x : Int} {k : Nat} (h : x = k) (hk : k ≤ 255) : IntKind.u8.wrap x = k := by rw [h, IntWalk.u8_in _ ⟨by omega, by omega⟩]
theorem wu64 {x : Int} {k : Nat} (h : x = k) (hk : k ≤ 18446744073709551615) : IntKind.u64.wrap x = k := by rw [h, IntWalk.u64_in _ ⟨by omega, by omega⟩]
theorem ai64 {x : Int} {k : Nat} (h : x = k) (hk : k ≤ 9223372036854775807) : AV.int .i64 (IntKind.i64.wrap x) = .int .i64 k := by rw [h, IntWalk.i64_in _ ⟨by omega, by omega⟩]
theorem ai64i {x y : Int} (h : x = y) (hk : -9223372036854775808 ≤ x ∧ x ≤ 9223372036854775807) : AV.int .i64 (IntKind.i64.wrap x) = .int .i64 y := by rw [IntWalk.i64_in _ hk, h]
theorem au64 {x : Int} {k : Nat} (h : x = k) (hk : k ≤ 18446744073709551615) : AV.int .u64 (IntKind.u64.wrap x) = .int .u64 k := by rw [h, IntWalk.u64_in _ ⟨by omega, by omega⟩]
theorem au32 {x : Int} {k : Nat} (h : x = k) (hk : k ≤ 4294967295) : AV.int .u32 (IntKind.u32.wrap x) = .int .u32 k := by rw [h, IntWalk.u32_in _ ⟨by omega, by omega⟩]
theorem au8 {x : Int} {k : Nat} (h : x = k) (hk : k ≤ 255) : AV.int .u8 (IntKind.u8.wrap x) = .int .u8 k := by rw [h, IntWalk.u8_in _ ⟨by omega, by omega⟩]

/-- What the end of a round owes. -/
def Round {α : Type} (F : α → Fr) (H : α → Heap) (I : α → Prop) (m : α → Nat) (s : α) : Fr → Heap → Prop := fun fr' σ' => ∃ s', m s' < m s ∧ I s' ∧ Weak fr' (F s') ∧ σ' = H s'

section
variable {cx : Cx} {n : Nat} {B : Bs} {k : List AI} {Q : Post} {fr fr' : Fr} {σ : Heap}

theorem S_weak {c : Code} {fr' : Fr} (hw : Weak fr fr') (h : S cx n B (.code c :: k) Q fr' σ) : S cx n B (.code c :: k) Q fr σ := S_code_weak hw h

/-- A loop over a state: its frame, its heap, what holds of it, and its measure. -/
theorem S_while {α : Type} {c : Code} (F : α → Fr) (H : α → Heap) (I : α → Prop) (m : α → Nat) (s : α) (hi : I s) (hw : Weak fr (F s)) (hσ : σ = H s)
    (hb : ∀ s, I s → S cx n B (.code c :: .inv (Round F H I m s) :: k) Q (F s) (H s)) : S cx n B (.code (.loop c) :: k) Q fr σ := by
  subst hσ
  refine S_code_weak hw (S_loop (fun j fr σ => ∃ s, m s = j ∧ I s ∧ fr = F s ∧ σ = H s) (m s) ⟨s, rfl, hi, rfl, rfl⟩ ?_)
  rintro j fr σ ⟨s, rfl, hi, rfl, rfl⟩
  intro r a w h1 h2 h3 h4
  refine wp_mono (hb s hi r a w h1 h2 h3 h4) fun e a' w' => ?_
  rintro ⟨ae, fr', σ', r', hq, he, h5⟩
  refine ⟨ae, fr', σ', r', ?_, he, h5⟩
  cases ae with
  | normal =>
    obtain ⟨s', k1, k2, k3, k4⟩ := hq
    exact ⟨_, _, k1, ⟨s', rfl, k2, rfl, k4⟩, k3⟩
  | _ => exact hq

/-- The end of a round. -/
theorem S_round {α : Type} {F : α → Fr} {H : α → Heap} {I : α → Prop} {m : α → Nat} {s : α} (s' : α) (hm : m s' < m s) (hi : I s') (hw : Weak fr (F s')) (hσ : σ = H s') :
    S cx n B (.inv (Round F H I m s) :: k) Q fr σ := S_inv ⟨s', hm, hi, hw, hσ⟩

theorem S_dec {c : Operand} {x y : Code} {p : Prop} [Decidable p] (hc : ev cx fr c = .bool (decide p)) (ht : p → S cx n B (.code x :: k) Q fr σ) (hf : ¬ p → S cx n B (.code y :: k) Q fr σ) :
    S cx n B (.code (.cond c x y) :: k) Q fr σ := S_cond hc (fun h => ht (of_decide_eq_true h)) (fun h => hf (of_decide_eq_false h))

theorem S_beq {c : Operand} {x y : Code} {a b : Int} (hc : ev cx fr c = .bool (a == b)) (ht : a = b → S cx n B (.code x :: k) Q fr σ) (hf : a ≠ b → S cx n B (.code y :: k) Q fr σ) :
    S cx n B (.code (.cond c x y) :: k) Q fr σ := S_cond hc (fun h => ht (by simpa using h)) (fun h => hf (by simpa using h))

theorem S_bne {c : Operand} {x y : Code} {a b : Int} (hc : ev cx fr c = .bool (a != b)) (ht : a ≠ b → S cx n B (.code x :: k) Q fr σ) (hf : a = b → S cx n B (.code y :: k) Q fr σ) :
    S cx n B (.code (.cond c x y) :: k) Q fr σ := S_cond hc (fun h => ht (by simpa using h)) (fun h => hf (by simpa using h))

end
end Go.Ab
end

section
set_option linter.unusedVariables false
set_option linter.unusedSimpArgs false
namespace Go.Ab
open Go

def uns : IntKind → Bool | .u8 | .u16 | .u32 | .u64 => true | _ => false

theorem wrap_uns {k : IntKind} (hk : uns k = true) {a : Nat} (ha : a < 2 ^ k.bits) : k.wrap (a : Int) = a := by
  have h : (a : Int) < (2 ^ k.bits : Nat) := by exact_mod_cast ha
  cases k <;> first | (simp [uns] at hk; done) | skip
  · rw [IntKind.wrap_u8]; simp [IntKind.bits] at h; omega
  · simp [IntKind.wrap, IntKind.bits, IntKind.signed] at *; omega
  · rw [IntKind.wrap_u32]; simp [IntKind.bits] at h; omega
  · simp [IntKind.wrap, IntKind.bits, IntKind.signed] at *; omega

theorem bits_and {k : IntKind} (hk : uns k = true) {a b : Nat} (ha : a < 2 ^ k.bits) (hb : b < 2 ^ k.bits) : bitsA .and k a b = ((a &&& b : Nat) : Int) := by
  unfold bitsA
  simp only [BitVec.ofInt_natCast, BitVec.toNat_and, BitVec.toNat_ofNat, Nat.mod_eq_of_lt ha, Nat.mod_eq_of_lt hb]
  exact wrap_uns hk (Nat.and_lt_two_pow _ hb)

theorem bits_or {k : IntKind} (hk : uns k = true) {a b : Nat} (ha : a < 2 ^ k.bits) (hb : b < 2 ^ k.bits) : bitsA .or k a b = ((a ||| b : Nat) : Int) := by
  unfold bitsA
  simp only [BitVec.ofInt_natCast, BitVec.toNat_or, BitVec.toNat_ofNat, Nat.mod_eq_of_lt ha, Nat.mod_eq_of_lt hb]
  exact wrap_uns hk (Nat.or_lt_two_pow ha hb)

theorem bits_xor {k : IntKind} (hk : uns k = true) {a b : Nat} (ha : a < 2 ^ k.bits) (hb : b < 2 ^ k.bits) : bitsA .xor k a b = ((a ^^^ b : Nat) : Int) := by
  unfold bitsA
  simp only [BitVec.ofInt_natCast, BitVec.toNat_xor, BitVec.toNat_ofNat, Nat.mod_eq_of_lt ha, Nat.mod_eq_of_lt hb]
  exact wrap_uns hk (Nat.xor_lt_two_pow ha hb)

theorem wrap_i64n {a : Nat} (ha : a < 9223372036854775808) : IntKind.i64.wrap (a : Int) = a := IntWalk.i64_in _ ⟨by omega, by omega⟩

theorem and_i64 {a b : Nat} (ha : a < 9223372036854775808) (hb : b < 9223372036854775808) : bitsA .and .i64 a b = ((a &&& b : Nat) : Int) := by
  unfold bitsA
  simp only [BitVec.ofInt_natCast, BitVec.toNat_and, BitVec.toNat_ofNat]
  rw [Nat.mod_eq_of_lt (show a < 2 ^ IntKind.i64.bits from Nat.lt_of_lt_of_le ha (by decide)), Nat.mod_eq_of_lt (show b < 2 ^ IntKind.i64.bits from Nat.lt_of_lt_of_le hb (by decide))]
  exact wrap_i64n (Nat.and_lt_two_pow (n := 63) _ hb)

theorem or_i64 {a b : Nat} (ha : a < 9223372036854775808) (hb : b < 9223372036854775808) : bitsA .or .i64 a b = ((a ||| b : Nat) : Int) := by
  unfold bitsA
  simp only [BitVec.ofInt_natCast, BitVec.toNat_or, BitVec.toNat_ofNat]
  rw [Nat.mod_eq_of_lt (show a < 2 ^ IntKind.i64.bits from Nat.lt_of_lt_of_le ha (by decide)), Nat.mod_eq_of_lt (show b < 2 ^ IntKind.i64.bits from Nat.lt_of_lt_of_le hb (by decide))]
  exact wrap_i64n (Nat.or_lt_two_pow (n := 63) ha hb)

theorem xor_i64 {a b : Nat} (ha : a < 9223372036854775808) (hb : b < 9223372036854775808) : bitsA .xor .i64 a b = ((a ^^^ b : Nat) : Int) := by
  unfold bitsA
  simp only [BitVec.ofInt_natCast, BitVec.toNat_xor, BitVec.toNat_ofNat]
  rw [Nat.mod_eq_of_lt (show a < 2 ^ IntKind.i64.bits from Nat.lt_of_lt_of_le ha (by decide)), Nat.mod_eq_of_lt (show b < 2 ^ IntKind.i64.bits from Nat.lt_of_lt_of_le hb (by decide))]
  exact wrap_i64n (Nat.xor_lt_two_pow (n := 63) ha hb)

theorem byteAV_of {x : Int} {n : Nat} (h : x = n) (hn : n < 256) : AV.int .u8 x = byteAV (UInt8.ofNat n) := by
  unfold byteAV
  rw [h, UInt8.toNat_ofNat', Nat.mod_eq_of_lt (by omega)]

theorem shr_nat (a m : Nat) : (a : Int).fdiv (2 ^ m) = ((a / 2 ^ m : Nat) : Int) := by
  rw [Int.fdiv_eq_ediv_of_nonneg]
  · simp
  · exact Int.pow_nonneg (by decide)

theorem wrap_low {k : IntKind} (hk : uns k = true) (a : Nat) : k.wrap (a : Int) = ((a % 2 ^ k.bits : Nat) : Int) := by
  cases k <;> first | (simp [uns] at hk; done) | skip
  · rw [IntKind.wrap_u8]; simp [IntKind.bits]
  · simp [IntKind.wrap, IntKind.bits, IntKind.signed]
  · rw [IntKind.wrap_u32]; simp [IntKind.bits]
  · simp [IntKind.wrap, IntKind.bits, IntKind.signed]

theorem xor_ones {c : Nat} (h : c < 4294967296) : 4294967295 ^^^ c = 4294967295 - c := by
  have h1 : (BitVec.allOnes 32 ^^^ BitVec.ofNat 32 c).toNat = (~~~ (BitVec.ofNat 32 c)).toNat := by rw [BitVec.allOnes_xor]
  simp only [BitVec.toNat_xor, BitVec.toNat_allOnes, BitVec.toNat_ofNat, BitVec.toNat_not] at h1
  rw [Nat.mod_eq_of_lt (by omega)] at h1
  simpa using h1

theorem setRange_all {α : Type} {cs vs : List α} (h : cs.length = vs.length) : setRange cs 0 vs = vs := by
  unfold setRange
  split
  · rename_i v
    match cs, h with
    | [c], _ => rfl
  · simp [← h]

end Go.Ab
end

section
set_option linter.unusedVariables false
set_option linter.unusedSimpArgs false
namespace Go.Ab
open Go

theorem blt_lt {a b : Nat} (h : Nat.blt a b = true) : a < b := by simpa [Nat.blt_eq] using h
theorem lt_blt {a b : Nat} (h : a < b) : Nat.blt a b = true := by simpa [Nat.blt_eq] using h

/-- A direct edge: 'j' waits for 'i'. -/
def edge (ops : List Oper) (j i : Nat) : Bool :=
  match ops[j]? with
  | some o => o.after.toList.any fun e => match e.ground with
    | .textOnly _ => false
    | .gcOnly _ => false
    | _ => Nat.beq e.on i
  | none => false

def anyB : List Bool → Bool
  | [] => false
  | b :: r => match b with | true => true | false => anyB r
def allB : List Bool → Bool
  | [] => true
  | b :: r => match b with | true => allB r | false => false

theorem anyB_mem : ∀ {l : List Bool}, anyB l = true → true ∈ l
  | [], h => by cases h
  | true :: r, _ => List.mem_cons_self ..
  | false :: r, h => List.mem_cons_of_mem _ (anyB_mem h)
theorem allB_mem : ∀ {l : List Bool}, allB l = true → ∀ b ∈ l, b = true
  | [], h, b, hb => by cases hb
  | true :: r, h, b, hb => by
    rcases List.mem_cons.1 hb with rfl | hb
    · rfl
    · exact allB_mem (l := r) h b hb
  | false :: r, h, b, hb => by cases h

def dstOf (ops : List Oper) (i : Nat) : Option Nat := (ops[i]?).bind (·.dst)

def eqDst : Option Nat → Nat → Bool
  | some d, t => Nat.beq d t
  | none, _ => false

theorem eqDst_iff {o : Option Nat} {t : Nat} : eqDst o t = true ↔ o = some t := by
  cases o with
  | none => simp [eqDst]
  | some d => simp only [eqDst, Option.some.injEq]; exact ⟨Nat.eq_of_beq_eq_true, fun h => by subst h; exact Nat.beq_refl d⟩

/-- The slots that an operation looks at. -/
def slotsOf (ops : List Oper) (o : Oper) : List Nat :=
  (o.op.operands.toList.filterMap fun x => match x with | .tmp t => some t | _ => none) ++
  (match o.guard with
   | some (g, _) => match dstOf ops g with | some d => [d] | none => []
   | none => [])

/-- Among the first 'm': where 'j' reads slot 't', whoever writes it comes before by an edge, or behind by one. -/
def readOk (ops : List Oper) (m j t : Nat) : Bool :=
  allB ((List.range m).map fun i => match eqDst (dstOf ops i) t with
    | false => true
    | true => match Nat.blt i j with
      | true => edge ops j i
      | false => match Nat.beq i j with
        | true => true
        | false => edge ops i j)

def drawOk (ops : List Oper) (m : Nat) : Bool :=
  allB ((List.range m).map fun j => match ops[j]? with
    | some o =>
      match allB ((slotsOf ops o).map fun t => readOk ops m j t) with
      | true => match o.dst with
        | some d => allB ((List.range m).map fun i => match eqDst (dstOf ops i) d with | true => Nat.beq i j | false => true)
        | none => true
      | false => false
    | none => false) &&
  allB ((List.range ops.length).map fun j => match Nat.blt m j with
    | true => edge ops j (j - 1)
    | false => true) &&
  allB ((List.range ops.length).map fun j => match ops[j]? with
    | some o => allB (o.after.toList.map fun e => match e.ground with
      | .textOnly _ => true
      | .gcOnly _ => true
      | _ => Nat.blt e.on j)
    | none => true) &&
  (match Nat.blt m ops.length with
   | true => allB ((List.range m).map fun i => anyB ((List.range (m + 1)).map fun k => match Nat.blt i k with | true => edge ops k i | false => false))
   | false => true)

def Listed (listed : Array Bool) (i : Nat) : Prop := listed.getD i false = true

theorem edge_iff {ops : Array Oper} {j i : Nat} : edge ops.toList j i = true ↔ ∃ o, ops[j]? = some o ∧ ∃ e ∈ o.after, Region.binds .any e = true ∧ e.on = i := by
  unfold edge
  rw [Array.getElem?_toList]
  cases ops[j]? with
  | none => simp
  | some o =>
    simp only [Option.some.injEq, exists_eq_left', List.any_eq_true, Array.mem_toList_iff]
    constructor
    · rintro ⟨e, he, hb⟩
      refine ⟨e, he, ?_, ?_⟩
      · unfold Region.binds; cases hg : e.ground <;> simp [hg] at hb ⊢
      · cases hg : e.ground <;> simp [hg] at hb <;> omega
    · rintro ⟨e, he, hb, rfl⟩
      refine ⟨e, he, ?_⟩
      unfold Region.binds at hb
      cases hg : e.ground <;> simp [hg] at hb ⊢

def ovl : List Oper → List AV → Fr → Fr
  | o :: r, v :: vs, fr => ovl r vs (setA o.dst v fr)
  | _, _, fr => fr

theorem setA_get (d : Option Nat) (v : AV) (fr : Fr) (t : Nat) : (setA d v fr).get t = if d = some t then v else fr.get t := by
  cases d with
  | none => simp [setA]
  | some d => simp only [setA, Fr.get_cons, Option.some.injEq]

theorem ovl_get : ∀ (l : List Oper) (vs : List AV) (fr : Fr) (t : Nat), l.length = vs.length →
    (∃ (i : Nat) (o : Oper) (v : AV), l[i]? = some o ∧ o.dst = some t ∧ vs[i]? = some v ∧ (ovl l vs fr).get t = v) ∨ ((∀ (i : Nat) (o : Oper), l[i]? = some o → o.dst ≠ some t) ∧ (ovl l vs fr).get t = fr.get t)
  | [], [], fr, t, _ => .inr ⟨fun i o h => by simp at h, rfl⟩
  | [], v :: vs, fr, t, h => by simp at h
  | o :: r, [], fr, t, h => by simp at h
  | o :: r, v :: vs, fr, t, h => by
    rcases ovl_get r vs (setA o.dst v fr) t (by simpa using h) with ⟨i, o', v', h1, h2, h3, h4⟩ | ⟨h1, h2⟩
    · exact .inl ⟨i + 1, o', v', by simpa using h1, h2, by simpa using h3, h4⟩
    · rw [setA_get] at h2
      by_cases hd : o.dst = some t
      · rw [if_pos hd] at h2
        exact .inl ⟨0, o, v, rfl, hd, rfl, h2⟩
      · rw [if_neg hd] at h2
        refine .inr ⟨fun i o' hi => ?_, h2⟩
        cases i with
        | zero => simp at hi; subst hi; exact hd
        | succ i => exact h1 i o' (by simpa using hi)

/-- The temporaries, when these have come. -/
structure FL (r : Rl) (w : World) (n : Nat) (fr : Fr) (ops : List Oper) (m : Nat) (vals : List AV) (listed : Array Bool) (a : Act) : Prop where
  size : a.tmps.size = n
  done : ∀ j d v, j < m → Listed listed j → dstOf ops j = some d → vals[j]? = some v → VRel r w (a.tmps.getD d undef) v
  rest : ∀ t, (∀ j, j < m → Listed listed j → dstOf ops j ≠ some t) → VRel r w (a.tmps.getD t undef) (fr.get t)
  defs : ∀ vs, fr.get n = .mark vs → DRel r w a.defers vs

/-- One operation of those whose order is open. -/
def StepD (cx : Cx) (n : Nat) (all : Array Oper) (σ : Heap) (K : List Nat) (fr : Fr) (o : Oper) (v : AV) : Prop :=
  dstOk n o.dst = true ∧ ((guardA all o K fr = some false ∧ v = .tup []) ∨ (guardA all o K fr = some true ∧ ∀ r a w, Inv cx r σ w → FRel r w n fr a → ∀ Q, o.wp cx.P a w (fun a' w' => ∃ r' v', a' = a.put o.dst v' ∧ VRel r' w' v' v ∧ Inv cx r' σ w' ∧ Ext r σ w r' σ w') Q))

def restr (ops : List Oper) (o : Oper) (fr : Fr) : Fr := (slotsOf ops o).map fun t => (t, fr.get t)

theorem restr_get (l : List Nat) (fr : Fr) (t : Nat) : Fr.get (l.map fun t => (t, fr.get t)) t = .top ∨ (t ∈ l ∧ Fr.get (l.map fun t => (t, fr.get t)) t = fr.get t) := by
  induction l with
  | nil => exact .inl rfl
  | cons x r ih =>
    simp only [List.map_cons, Fr.get_cons]
    by_cases hx : x = t
    · subst hx; rw [if_pos rfl]; exact .inr ⟨List.mem_cons_self .., rfl⟩
    · rw [if_neg hx]
      rcases ih with h | ⟨h1, h2⟩
      · exact .inl h
      · exact .inr ⟨List.mem_cons_of_mem _ h1, h2⟩

theorem wpOp_list {P : Program} {ops : Array Oper} {Q : Exit → Act → World → Prop} {q : Nat} {o : Oper} {rest : List Oper} {a : Act} {w : World} (ho : ops[q]? = some o) (h : wpList P ops Q (o :: rest) a w) : wpOp P ops Q q (wpList P ops Q rest) a w := by
  unfold wpOp
  simp only [ho]
  unfold wpList at h
  exact h

theorem listed_lt {listed : Array Bool} {i : Nat} (h : Listed listed i) : i < listed.size := by
  rcases Nat.lt_or_ge i listed.size with h' | h'
  · exact h'
  · unfold Listed at h; rw [Array.getD_eq_getD_getElem?, Array.getElem?_eq_none h'] at h; cases h

theorem listed_true {listed : Array Bool} {i : Nat} (h : i < listed.size) : listed.getD i true = listed.getD i false := by
  simp [Array.getD_eq_getD_getElem?, h]

theorem listed_set {listed : Array Bool} {i j : Nat} (hi : i < listed.size) : Listed (listed.setIfInBounds i true) j ↔ j = i ∨ Listed listed j := by
  unfold Listed
  by_cases h : i = j
  · subst h; simp [hi]
  · rw [getD_set_ne false h]
    constructor
    · exact fun h => .inr h
    · rintro (h' | h')
      · exact absurd h'.symm h
      · exact h'

/-- What stands behind comes in the order of the text. -/
theorem wpAny_tail {P : Program} {ops : Array Oper} {Q : Exit → Act → World → Prop} {m : Nat} (hch : ∀ j, m < j → j < ops.size → edge ops.toList j (j - 1) = true) (hlo : ∀ j i, edge ops.toList j i = true → i < j) :
    ∀ (f q : Nat) (listed : Array Bool) (a : Act) (w : World), f + q = ops.size → m ≤ q → listed.size = ops.size → (∀ i, i < ops.size → (Listed listed i ↔ i < q)) → wpList P ops Q (ops.toList.drop q) a w → wpAny P .any ops Q f listed a w
  | 0, q, listed, a, w, hf, hm, hs, hl, h => by
    refine ⟨?_, ?_⟩
    · apply List.eq_nil_iff_forall_not_mem.2
      intro j hj
      obtain ⟨h0, o, ho, _⟩ := mem_ready.1 hj
      have hjlt := (Array.getElem?_eq_some_iff.1 ho).1
      rw [listed_true (by omega)] at h0
      have := (hl j hjlt).2 (by omega)
      rw [this] at h0; cases h0
    · rw [List.drop_of_length_le (by simp; omega)] at h
      exact h
  | f + 1, q, listed, a, w, hf, hm, hs, hl, h => by
    have hq : q < ops.size := by omega
    have hd : ops.toList.drop q = ops[q] :: ops.toList.drop (q + 1) := by rw [List.drop_eq_getElem_cons (by simpa using hq)]; simp
    rw [hd] at h
    have hqr : q ∈ Region.ready .any ops listed := by
      refine mem_ready.2 ⟨?_, ops[q], Array.getElem?_eq_getElem hq, fun e he hb => ?_⟩
      · rw [listed_true (by omega)]
        cases hx : listed.getD q false with
        | false => rfl
        | true => have := (hl q hq).1 hx; omega
      · have h1 : e.on < q := hlo q e.on (edge_iff.2 ⟨ops[q], Array.getElem?_eq_getElem hq, e, he, hb, rfl⟩)
        exact (hl e.on (by omega)).2 h1
    refine ⟨fun h0 => absurd (h0 ▸ hqr) (by simp), fun i hi => ?_⟩
    obtain ⟨h0, o, ho, hall⟩ := mem_ready.1 hi
    have hilt := (Array.getElem?_eq_some_iff.1 ho).1
    rw [listed_true (by omega)] at h0
    have hge : q ≤ i := by
      rcases Nat.lt_or_ge i q with h' | h'
      · have := (hl i hilt).2 h'; rw [this] at h0; cases h0
      · exact h'
    have hiq : i = q := by
      rcases Nat.eq_or_lt_of_le hge with h' | h'
      · exact h'.symm
      · obtain ⟨o', ho', e, he, hb, hon⟩ := edge_iff.1 (hch i (by omega) hilt)
        rw [ho] at ho'; cases ho'
        have := hall e he hb
        rw [hon] at this
        have := (hl (i - 1) (by omega)).1 this
        omega
    subst hiq
    refine wpOp_mono (fun a' w' h' => ?_) (wpOp_list (Array.getElem?_eq_getElem hilt) h)
    refine wpAny_tail hch hlo f (i + 1) _ a' w' (by omega) (by omega) (by simpa using hs) (fun k hk => ?_) h'
    rw [listed_set (by omega), hl k hk]; omega

def Down (ops : List Oper) (listed : Array Bool) : Prop := ∀ j i, Listed listed j → edge ops j i = true → Listed listed i

def unl (listed : Array Bool) : Nat := listed.toList.countP fun b => !b

theorem unl_set {listed : Array Bool} {i : Nat} (hi : i < listed.size) (h : listed.getD i false = false) : unl (listed.setIfInBounds i true) + 1 = unl listed := by
  unfold unl
  have hb : listed.toList[i]'(by simpa using hi) = false := by
    simpa [Array.getD_eq_getD_getElem?, hi] using h
  rw [Array.toList_setIfInBounds, List.countP_set (by simpa using hi)]
  have hpos : 0 < listed.toList.countP fun b => !b := List.countP_pos_iff.2 ⟨false, hb ▸ List.getElem_mem _, rfl⟩
  simp only [hb, Bool.not_false, if_true, Bool.not_true, Bool.false_eq_true, if_false]
  omega

theorem exists_least {p : Nat → Prop} : ∀ (b : Nat), (∃ j, j < b ∧ p j) → ∃ j, j < b ∧ p j ∧ ∀ i, i < j → ¬ p i
  | 0, ⟨j, h, _⟩ => absurd h (by omega)
  | b + 1, h => by
    by_cases hb : ∃ j, j < b ∧ p j
    · obtain ⟨j, h1, h2, h3⟩ := exists_least b hb
      exact ⟨j, by omega, h2, h3⟩
    · obtain ⟨j, h1, h2⟩ := h
      have : j = b := by
        rcases Nat.lt_or_ge j b with h' | h'
        · exact absurd ⟨j, h', h2⟩ hb
        · omega
      subst this
      exact ⟨j, h1, h2, fun i hi hp => hb ⟨i, hi, hp⟩⟩

section
variable {cx : Cx} {n : Nat} {B : Bs} {k : List AI} {Q : Post} {fr : Fr} {σ : Heap}

theorem wpAny_front {ops : Array Oper} {m : Nat} {vals : List AV} {K : List Nat} {Q' : Exit → Act → World → Prop} (hmN : m ≤ ops.size) (hlen : vals.length = m)
    (hread : ∀ j o t, j < m → ops.toList[j]? = some o → t ∈ slotsOf ops.toList o → readOk ops.toList m j t = true)
    (huniq : ∀ i j d, i < m → j < m → dstOf ops.toList i = some d → dstOf ops.toList j = some d → i = j)
    (hch : ∀ j, m < j → j < ops.size → edge ops.toList j (j - 1) = true) (hlo : ∀ j i, edge ops.toList j i = true → i < j)
    (hcl : m < ops.size → ∀ i, i < m → ∃ k, i < k ∧ k ≤ m ∧ edge ops.toList k i = true)
    (hstep : ∀ (j : Nat) o v, j < m → ops.toList[j]? = some o → vals[j]? = some v → StepD cx n ops σ K (restr ops.toList o (ovl (ops.toList.take j) (vals.take j) fr)) o v)
    (hend : ∀ r a w, Inv cx r σ w → FRel r w n (ovl (ops.toList.take m) vals fr) a → Dfs B a → Ext B.r B.σ B.w r σ w → wpList cx.P ops Q' (ops.toList.drop m) a w) :
    ∀ (f : Nat) (listed : Array Bool) (r : Rl) (a : Act) (w : World), listed.size = ops.size → unl listed = f → Down ops.toList listed → (∀ j, m ≤ j → ¬ Listed listed j) →
      FL r w n fr ops.toList m vals listed a → Inv cx r σ w → Dfs B a → Ext B.r B.σ B.w r σ w → wpAny cx.P .any ops Q' f listed a w := by
  have ovlN : ∀ i, i ≤ m → ∀ vs, (ovl (ops.toList.take i) (vals.take i) fr).get n = .mark vs → fr.get n = .mark vs := by
    intro i him vs hm
    rcases ovl_get (ops.toList.take i) (vals.take i) fr n (by simp [hlen]; omega) with ⟨i', o', v', k1, k2, k3, k4⟩ | ⟨k1, k2⟩
    · exfalso
      have hi'i : i' < i := by
        rcases Nat.lt_or_ge i' i with h' | h'
        · exact h'
        · rw [List.getElem?_eq_none (by simp; omega)] at k1; cases k1
      rw [List.getElem?_take_of_lt hi'i] at k1 k3
      have hds := (hstep i' o' v' (by omega) k1 k3).1
      rw [k2] at hds
      have := blt_lt hds
      omega
    · rw [← k2]; exact hm
  have fin : ∀ (f : Nat) (listed : Array Bool) (r : Rl) (a : Act) (w : World), listed.size = ops.size → unl listed = f → (∀ j, j < m → Listed listed j) → (∀ j, m ≤ j → ¬ Listed listed j) →
      FL r w n fr ops.toList m vals listed a → Inv cx r σ w → Dfs B a → Ext B.r B.σ B.w r σ w → wpAny cx.P .any ops Q' f listed a w := by
    intro f listed r a w hs hf hall hno hfl hi hd hx
    have hcount : unl listed + m = ops.size := by
      have hl : listed.toList = List.replicate m true ++ List.replicate (ops.size - m) false := by
        apply List.ext_getElem
        · simp; omega
        · intro j h1 h2
          have hj : j < listed.size := by simpa using h1
          have h3 : listed.getD j false = listed.toList[j] := by simp [Array.getD_eq_getD_getElem?, hj]
          by_cases hjm : j < m
          · rw [List.getElem_append_left (by simpa using hjm), List.getElem_replicate, ← h3]; exact hall j hjm
          · rw [List.getElem_append_right (by simp; omega), List.getElem_replicate, ← h3]
            have := hno j (by omega)
            unfold Listed at this
            simpa using this
      unfold unl
      rw [hl, List.countP_append, List.countP_replicate, List.countP_replicate]
      simp; omega
    refine wpAny_tail hch hlo f m listed a w (by omega) (Nat.le_refl m) hs (fun i hi' => ⟨fun h => ?_, fun h => hall i h⟩) (hend r a w hi ⟨hfl.size, fun t => ?_, fun vs hm => ?_⟩ hd hx)
    case refine_3 =>
      refine hfl.defs vs (ovlN m (Nat.le_refl _) vs ?_)
      rw [show vals.take m = vals from List.take_of_length_le (by omega)]
      exact hm
    · rcases Nat.lt_or_ge i m with h' | h'
      · exact h'
      · exact absurd h (hno i h')
    · rcases ovl_get (ops.toList.take m) vals fr t (by simp [hlen]; omega) with ⟨i, o, v, h1, h2, h3, h4⟩ | ⟨h1, h2⟩
      · rw [h4]
        have him : i < m := by
          rcases Nat.lt_or_ge i m with h' | h'
          · exact h'
          · rw [List.getElem?_eq_none (by simp; omega)] at h1; cases h1
        rw [List.getElem?_take_of_lt him] at h1
        exact hfl.done i t v him (hall i him) (by simp [dstOf, h1, h2]) h3
      · rw [h2]
        refine hfl.rest t (fun j hj _ hdj => ?_)
        obtain ⟨o, ho, hod⟩ := Option.bind_eq_some_iff.1 hdj
        exact h1 j o (by rw [List.getElem?_take_of_lt hj]; exact ho) hod
  intro f
  induction f with
  | zero =>
    intro listed r a w hs hf hdn hno hfl hi hd hx
    refine fin 0 listed r a w hs hf (fun j hj => ?_) hno hfl hi hd hx
    rcases hb : listed.getD j false with _ | _
    · have := unl_set (by omega) hb
      omega
    · exact hb
  | succ f ih =>
    intro listed r a w hs hf hdn hno hfl hi hd hx
    by_cases hall : ∀ j, j < m → Listed listed j
    · exact fin (f + 1) listed r a w hs hf hall hno hfl hi hd hx
    have hex : ∃ j, j < m ∧ ¬ Listed listed j := by
      apply Classical.byContradiction
      intro h
      exact hall (fun j hj => Classical.byContradiction fun hl => h ⟨j, hj, hl⟩)
    refine ⟨fun h0 => ?_, fun i hir => ?_⟩
    · obtain ⟨j, h1, h2, h3⟩ := exists_least m hex
      have hjr : j ∈ Region.ready .any ops listed := by
        refine mem_ready.2 ⟨?_, ops[j]'(by omega), Array.getElem?_eq_getElem _, fun e he hb => ?_⟩
        · rw [listed_true (by omega)]; simpa [Listed] using h2
        · have h4 : e.on < j := hlo j e.on (edge_iff.2 ⟨ops[j]'(by omega), Array.getElem?_eq_getElem _, e, he, hb, rfl⟩)
          exact Classical.byContradiction fun h5 => h3 e.on h4 h5
      rw [h0] at hjr; cases hjr
    · obtain ⟨h0, o, ho, hedges⟩ := mem_ready.1 hir
      have hilt := (Array.getElem?_eq_some_iff.1 ho).1
      rw [listed_true (by omega)] at h0
      have hed : ∀ j, edge ops.toList i j = true → Listed listed j := by
        intro j hj
        obtain ⟨o', ho', e, he, hb, hon⟩ := edge_iff.1 hj
        rw [ho] at ho'; cases ho'
        rw [← hon]; exact hedges e he hb
      have him : i < m := by
        rcases Nat.lt_or_ge i m with h' | h'
        · exact h'
        · exfalso
          rcases Nat.eq_or_lt_of_le h' with h'' | h''
          · subst h''
            refine hall (fun j hj => ?_)
            have key : ∀ d j, d + j = m → j < m → Listed listed j := by
              intro d
              induction d using Nat.strongRecOn with
              | _ d ihd =>
                intro j hdj hj
                obtain ⟨k, h1, h2, h3⟩ := hcl hilt j hj
                rcases Nat.eq_or_lt_of_le h2 with h4 | h4
                · subst h4; exact hed j h3
                · exact hdn k j (ihd (m - k) (by omega) k (by omega) h4) h3
            exact key (m - j) j (by omega) hj
          · exact hno (i - 1) (by omega) (hed _ (hch i h'' hilt))
      have hol : ops.toList[i]? = some o := by simpa using ho
      obtain ⟨v, hv⟩ : ∃ v, vals[i]? = some v := ⟨vals[i]'(by omega), List.getElem?_eq_getElem _⟩
      obtain ⟨hdst, hst⟩ := hstep i o v him hol hv
      have hnl : ¬ Listed listed i := by simp [Listed, h0]
      have hfr : FRel r w n (restr ops.toList o (ovl (ops.toList.take i) (vals.take i) fr)) a := by
        refine ⟨hfl.size, fun t => ?_, fun vs hm => ?_⟩
        case refine_2 =>
          unfold restr at hm
          rcases restr_get (slotsOf ops.toList o) (ovl (ops.toList.take i) (vals.take i) fr) n with h | ⟨h1, h2⟩
          · rw [h] at hm; cases hm
          · rw [h2] at hm
            exact hfl.defs vs (ovlN i (by omega) vs hm)
        unfold restr
        rcases restr_get (slotsOf ops.toList o) (ovl (ops.toList.take i) (vals.take i) fr) t with h | ⟨h1, h2⟩
        · rw [h]; exact .top
        · rw [h2]
          have hro := hread i o t him hol h1
          have hrd : ∀ i', i' < m → dstOf ops.toList i' = some t → (i' < i → edge ops.toList i i' = true) ∧ (i < i' → edge ops.toList i' i = true) := by
            intro i' hi' hd'
            have := allB_mem hro _ (List.mem_map.2 ⟨i', List.mem_range.2 hi', rfl⟩)
            rw [eqDst_iff.2 hd'] at this
            simp only at this
            constructor
            · intro hlt
              rw [lt_blt hlt] at this
              exact this
            · intro hlt
              rw [show Nat.blt i' i = false by cases hbb : Nat.blt i' i with | false => rfl | true => (have := blt_lt hbb; omega), show Nat.beq i' i = false by cases hbb : Nat.beq i' i with | false => rfl | true => (have := Nat.eq_of_beq_eq_true hbb; omega)] at this
              exact this
          rcases ovl_get (ops.toList.take i) (vals.take i) fr t (by simp [hlen]; omega) with ⟨i', o', v', k1, k2, k3, k4⟩ | ⟨k1, k2⟩
          · rw [k4]
            have hi'i : i' < i := by
              rcases Nat.lt_or_ge i' i with h' | h'
              · exact h'
              · rw [List.getElem?_eq_none (by simp; omega)] at k1; cases k1
            rw [List.getElem?_take_of_lt hi'i] at k1 k3
            have hd' : dstOf ops.toList i' = some t := by simp only [dstOf, k1, Option.bind_some, k2]
            exact hfl.done i' t v' (by omega) (hed _ ((hrd i' (by omega) hd').1 hi'i)) hd' k3
          · rw [k2]
            refine hfl.rest t (fun j hj hlj hdj => ?_)
            rcases Nat.lt_trichotomy j i with h' | h' | h'
            · obtain ⟨oj, hoj, hod⟩ := Option.bind_eq_some_iff.1 hdj
              exact k1 j oj (by rw [List.getElem?_take_of_lt h']; exact hoj) hod
            · subst h'; exact hnl hlj
            · exact hnl (hdn j i hlj ((hrd j hj hdj).2 h'))
      have next : ∀ (r' : Rl) (w' : World) (v' : Value), VRel r' w' v' v → Inv cx r' σ w' → Ext r σ w r' σ w' → wpAny cx.P .any ops Q' f (listed.setIfInBounds i true) (a.put o.dst v') w' := by
        intro r' w' v' hv' hi' hx'
        have hun := unl_set (by omega) h0
        refine ih _ r' _ w' (by simpa using hs) (by omega) (fun j l hj he => ?_) (fun j hj hl => ?_) ⟨?_, fun j d u hj hl hdj hu => ?_, fun t ht => ?_, fun vs hm => by rw [Act.put_defers]; exact (hfl.defs vs hm).mono (hx'.grow hi)⟩ hi' (hd.put _ _) (hx.trans hx')
        · rw [listed_set (by omega)] at hj ⊢
          rcases hj with rfl | hj
          · exact .inr (hed l he)
          · exact .inr (hdn j l hj he)
        · rw [listed_set (by omega)] at hl
          rcases hl with rfl | hl
          · omega
          · exact hno j hj hl
        · cases hod : o.dst <;> simp [Act.put, hfl.size]
        · have hg := hx'.grow hi
          rw [listed_set (by omega)] at hl
          by_cases hji : j = i
          · subst hji
            rw [hv] at hu; cases hu
            have hod : o.dst = some d := by simpa [dstOf, hol] using hdj
            rw [hod]
            rw [hod] at hdst
            simp only [Act.put]
            rw [getD_setIfInBounds (by rw [hfl.size]; exact blt_lt hdst), if_pos rfl]
            exact hv'
          · have hl' := hl.resolve_left hji
            have hold := (hfl.done j d u hj hl' hdj hu).mono hg
            cases hod : o.dst with
            | none => exact hold
            | some d' =>
              have hne : d' ≠ d := fun e => hji (huniq j i d hj him hdj (by subst e; simp [dstOf, hol, hod]))
              rw [hod] at hdst
              simp only [Act.put]
              rw [getD_setIfInBounds (by rw [hfl.size]; exact blt_lt hdst), if_neg hne]
              exact hold
        · have hg := hx'.grow hi
          have hold := (hfl.rest t (fun j hj hl => ht j hj ((listed_set (by omega)).2 (.inr hl)))).mono hg
          have hti := ht i him ((listed_set (by omega)).2 (.inl rfl))
          cases hod : o.dst with
          | none => exact hold
          | some d' =>
            have hne : d' ≠ t := fun e => hti (by subst e; simp [dstOf, hol, hod])
            rw [hod] at hdst
            simp only [Act.put]
            rw [getD_setIfInBounds (by rw [hfl.size]; exact blt_lt hdst), if_neg hne]
            exact hold
      unfold wpOp
      simp only [ho]
      rcases hst with ⟨hg, rfl⟩ | ⟨hg, hgo⟩
      · rw [guardA_wanted (cx := cx) hfr hg]
        simp only [Bool.false_eq_true, if_false]
        exact next r w undef (.tup rfl (fun i h => absurd h (by simp))) hi (Ext.refl _ _ _)
      · rw [guardA_wanted (cx := cx) hfr hg]
        simp only [if_true]
        refine .inl (Oper.wp_mono (fun a' w' h => ?_) (hgo r a w hi hfr Q'))
        obtain ⟨r', v', rfl, h2, h3, h4⟩ := h
        exact next r' w' v' h2 h3 h4

theorem drawOk_spec {ops : Array Oper} {m : Nat} (h : drawOk ops.toList m = true) :
    (∀ j o t, j < m → ops.toList[j]? = some o → t ∈ slotsOf ops.toList o → readOk ops.toList m j t = true) ∧
    (∀ i j d, i < m → j < m → dstOf ops.toList i = some d → dstOf ops.toList j = some d → i = j) ∧
    (∀ j, m < j → j < ops.size → edge ops.toList j (j - 1) = true) ∧ (∀ j i, edge ops.toList j i = true → i < j) ∧
    (m < ops.size → ∀ i, i < m → ∃ k, i < k ∧ k ≤ m ∧ edge ops.toList k i = true) := by
  unfold drawOk at h
  simp only [Bool.and_eq_true] at h
  obtain ⟨⟨⟨h1, h2⟩, h3⟩, h4⟩ := h
  refine ⟨fun j o t hj ho ht => ?_, fun i j d hi hj hdi hdj => ?_, fun j hj hjs => ?_, fun j i he => ?_, fun hm i hi => ?_⟩
  · have := allB_mem h1 _ (List.mem_map.2 ⟨j, List.mem_range.2 hj, rfl⟩)
    rw [ho] at this
    simp only at this
    split at this
    · rename_i hb
      exact allB_mem hb _ (List.mem_map.2 ⟨t, ht, rfl⟩)
    · cases this
  · have := allB_mem h1 _ (List.mem_map.2 ⟨j, List.mem_range.2 hj, rfl⟩)
    obtain ⟨o, ho, hod⟩ := Option.bind_eq_some_iff.1 hdj
    rw [ho] at this
    simp only at this
    split at this
    · rw [hod] at this
      simp only at this
      have := allB_mem this _ (List.mem_map.2 ⟨i, List.mem_range.2 hi, rfl⟩)
      rw [eqDst_iff.2 hdi] at this
      exact Nat.eq_of_beq_eq_true this
    · cases this
  · have := allB_mem h2 _ (List.mem_map.2 ⟨j, List.mem_range.2 (by simpa using hjs), rfl⟩)
    rw [lt_blt hj] at this
    exact this
  · obtain ⟨o, ho, e, hee, hb, rfl⟩ := edge_iff.1 he
    have hj := (Array.getElem?_eq_some_iff.1 ho).1
    have := allB_mem h3 _ (List.mem_map.2 ⟨j, List.mem_range.2 (by simpa using hj), rfl⟩)
    rw [Array.getElem?_toList, ho] at this
    have := allB_mem this _ (List.mem_map.2 ⟨e, by simpa using hee, rfl⟩)
    unfold Region.binds at hb
    cases hg : e.ground <;> simp [hg] at hb this <;> omega
  · rw [lt_blt (by simpa using hm)] at h4
    have := allB_mem h4 _ (List.mem_map.2 ⟨i, List.mem_range.2 hi, rfl⟩)
    obtain ⟨k, hk, he⟩ := List.mem_map.1 (anyB_mem this)
    have hkm := List.mem_range.1 hk
    split at he
    · rename_i hb
      exact ⟨k, blt_lt hb, by omega, he⟩
    · cases he

/-- A pure call's answer, or what the machine makes of an operation. -/
def oneD (cx : Cx) (K : List Nat) (n : Nat) (all : Array Oper) (σ : Heap) (o : Oper) (fr : Fr) (rs : List AV) : Option (List Prop × AV × List AV) :=
  match dstOk n o.dst with
  | false => none
  | true => match guardA all o K fr with
    | some false => some ([], .tup [], rs)
    | some true => match callA cx fr o.op with
      | some (f, args) => match rs with
        | r :: rs => some ([∃ args', Calc cx f args' r ∧ Frzs σ args args'], r, rs)
        | [] => none
      | none => match o.op with
        | .indexAddr .. => match rs with
          | x :: rs => match idxA cx fr σ o.op x with
            | some (C, v) => some (C, v, rs)
            | none => none
          | [] => none
        | .load _ y => match ev cx fr y with
          | .eptr _ _ _ => match rs with
            | x :: rs => match loadA cx fr σ o.op x with
              | some C => some (C, x, rs)
              | none => none
            | [] => none
          | _ => match aOp cx [] o.dst o.op fr σ with
            | some (C, v, σ') => some ((σ' = σ) :: C, v, rs)
            | none => none
        | _ => match stopOp o.op with
          | true => none
          | false => match aOp cx [] o.dst o.op fr σ with
            | some (C, v, σ') => some ((σ' = σ) :: C, v, rs)
            | none => none
    | none => none

def runD (cx : Cx) (K : List Nat) (n : Nat) (all : Array Oper) (ops : List Oper) (σ : Heap) : List Oper → Fr → List AV → Option (List Prop × List AV × Fr)
  | [], fr, rs => some ([], [], fr)
  | o :: r, fr, rs => match oneD cx K n all σ o (restr ops o fr) rs with
    | some (C, v, rs') => forceV v fun v => match runD cx K n all ops σ r (setA o.dst v fr) rs' with
      | some (D, vs, fr') => some (C ++ D, v :: vs, fr')
      | none => none
    | none => none

theorem oneD_spec {K : List Nat} {all : Array Oper} {o : Oper} {fr : Fr} {rs rs' : List AV} {C : List Prop} {v : AV} (h : oneD cx K n all σ o fr rs = some (C, v, rs')) (hC : AllP C) : StepD cx n all σ K fr o v := by
  unfold oneD at h
  split at h
  · cases h
  rename_i hd
  refine ⟨hd, ?_⟩
  split at h
  · rename_i hg
    simp only [Option.some.injEq, Prod.mk.injEq] at h
    obtain ⟨rfl, rfl, rfl⟩ := h
    exact .inl ⟨hg, rfl⟩
  · rename_i hg
    refine .inr ⟨hg, fun r a w hi hf Q => ?_⟩
    split at h
    · rename_i f args hc
      split at h
      case h_2 => cases h
      simp only [Option.some.injEq, Prod.mk.injEq] at h
      obtain ⟨rfl, rfl, rfl⟩ := h
      obtain ⟨⟨args', hp, hz⟩, _⟩ := hC
      obtain ⟨vs, h1, h2⟩ := callA_run hi hf hc hp.call.1
      unfold Oper.wp
      rw [h1, Oper.upon_enter]
      have hvs : VRels { S := r.S, I := fun b => r.I b ∨ Live r σ b, ρ := fun _ _ => none } w vs args' := by
        refine ⟨h2.1.trans hz.1, fun i hi' => ?_⟩
        exact (hz.2 i (by rw [hz.1]; exact hi') hi').rel (r' := { S := r.S, I := fun b => r.I b ∨ Live r σ b, ρ := fun _ _ => none }) hi (fun b h => h) (fun b h => Or.inl (hi.SI b h)) (fun _ b h => Or.inl h) (fun b h => ⟨Or.inr h, fun h => by cases h⟩) (h2.2 i (by rw [hz.1]; exact hi'))
      refine (hp.call.2 _ w vs hi.empty hvs).mono fun e w' ⟨out, σ', r1, ⟨ho, hσ'⟩, hor, hi1, hx1⟩ => ?_
      subst ho; subst hσ'
      cases e with
      | returned u =>
        obtain ⟨hi2, hx2⟩ := after_pure hi hi1 hx1
        have hu : VRel r1 w' u _ := hor
        exact ⟨{ S := r1.S, I := fun b => r.I b ∨ r1.S b, ρ := r.ρ }, u, rfl, hu.free hp.free (fun b h => h) (fun b h => Or.inr h) (fun h => by cases h), hi2, hx2⟩
      | panicked chain => exact hor.elim
      | outgrown => exact hor.elim
    · split at h
      · rename_i t s i hop
        split at h
        case h_2 => cases h
        split at h
        case h_2 => cases h
        rename_i x rs0 C' v' hx
        simp only [Option.some.injEq, Prod.mk.injEq] at h
        obtain ⟨rfl, rfl, rfl⟩ := h
        obtain ⟨r', w', v', hrun, hv, hi', hx'⟩ := idxA_run hi hf (o := o) hx hC
        unfold Oper.wp
        rcases hrun with hrun | ⟨hrun, hu⟩
        · rw [hrun]; exact ⟨r', v', rfl, hv, hi', hx'⟩
        · rw [hrun]; subst hu; exact ⟨r', _, rfl, hv, hi', hx'⟩
      · split at h
        · split at h
          case h_2 => cases h
          rename_i x rs0
          split at h
          case h_2 => cases h
          rename_i C' hx
          simp only [Option.some.injEq, Prod.mk.injEq] at h
          obtain ⟨rfl, rfl, rfl⟩ := h
          obtain ⟨r', w', v', hrun, hv, hi', hx'⟩ := loadA_run hi hf (o := o) hx hC
          unfold Oper.wp
          rcases hrun with hrun | ⟨hrun, hu⟩
          · rw [hrun]; exact ⟨r', v', rfl, hv, hi', hx'⟩
          · rw [hrun]; subst hu; exact ⟨r', _, rfl, hv, hi', hx'⟩
        · split at h
          case h_2 => cases h
          rename_i C' v' σ' ha
          simp only [Option.some.injEq, Prod.mk.injEq] at h
          obtain ⟨rfl, rfl, rfl⟩ := h
          obtain ⟨hσ, hC⟩ := hC
          subst hσ
          obtain ⟨r', w', v', hrun, hv, hi', hx'⟩ := aOp_run hi hf ha hC
          unfold Oper.wp
          rcases hrun with hrun | ⟨hrun, hu⟩
          · rw [hrun]; exact ⟨r', v', rfl, hv, hi', hx'⟩
          · rw [hrun]; subst hu; exact ⟨r', _, rfl, hv, hi', hx'⟩
      · split at h
        · cases h
        · split at h
          case h_2 => cases h
          rename_i C' v' σ' ha
          simp only [Option.some.injEq, Prod.mk.injEq] at h
          obtain ⟨rfl, rfl, rfl⟩ := h
          obtain ⟨hσ, hC⟩ := hC
          subst hσ
          obtain ⟨r', w', v', hrun, hv, hi', hx'⟩ := aOp_run hi hf ha hC
          unfold Oper.wp
          rcases hrun with hrun | ⟨hrun, hu⟩
          · rw [hrun]; exact ⟨r', v', rfl, hv, hi', hx'⟩
          · rw [hrun]; subst hu; exact ⟨r', _, rfl, hv, hi', hx'⟩
  · cases h

theorem runD_spec {K : List Nat} {all : Array Oper} {ops : List Oper} : ∀ {l : List Oper} {fr fr' : Fr} {rs vals : List AV} {C : List Prop}, runD cx K n all ops σ l fr rs = some (C, vals, fr') → AllP C →
    vals.length = l.length ∧ fr' = ovl l vals fr ∧ ∀ (j : Nat) (o : Oper) (v : AV), l[j]? = some o → vals[j]? = some v → StepD cx n all σ K (restr ops o (ovl (l.take j) (vals.take j) fr)) o v
  | [], fr, fr', rs, vals, C, h, hC => by
    simp only [runD, Option.some.injEq, Prod.mk.injEq] at h
    obtain ⟨rfl, rfl, rfl⟩ := h
    exact ⟨rfl, rfl, fun j o v h => by simp at h⟩
  | o :: l, fr, fr', rs, vals, C, h, hC => by
    simp only [runD] at h
    split at h
    case h_2 => cases h
    rename_i C1 v rs' h1
    rw [forceV_eq] at h
    split at h
    case h_2 => cases h
    rename_i D vs fr1 h2
    simp only [Option.some.injEq, Prod.mk.injEq] at h
    obtain ⟨rfl, rfl, rfl⟩ := h
    obtain ⟨hC1, hD⟩ := AllP_append hC
    obtain ⟨k1, k2, k3⟩ := runD_spec h2 hD
    refine ⟨by simp [k1], by rw [k2]; rfl, fun j oj vj hj hvj => ?_⟩
    cases j with
    | zero =>
      simp only [List.getElem?_cons_zero, Option.some.injEq] at hj hvj
      subst hj; subst hvj
      exact oneD_spec h1 hC1
    | succ j =>
      simp only [List.getElem?_cons_succ] at hj hvj
      exact k3 j oj vj hj hvj

theorem S_draw {id : Nat} {ops : Array Oper} {vals : List AV} {C : List Prop} {fr' : Fr} (m : Nat) (K : List Nat) (rs : List AV) (hP : cx.P.follows .mixedOrders = true) (hchk : drawOk ops.toList m = true) (hmN : Nat.ble m ops.size = true)
    (hrun : runD cx K n ops ops.toList σ (ops.toList.take m) fr rs = some (C, vals, fr')) (hC : AllP C)
    (hk : S cx n B (.ops ops (ops.toList.drop m) [] :: k) Q fr' σ) : S cx n B (.code (.region id ops true) :: k) Q fr σ := by
  intro r a w hi hf hd hx
  obtain ⟨c1, c2, c3, c4, c5⟩ := drawOk_spec hchk
  obtain ⟨k1, k2, k3⟩ := runD_spec hrun hC
  have hmN' := Nat.le_of_ble_eq_true hmN
  have hlen : vals.length = m := by rw [k1]; simp; omega
  obtain ⟨hi1, hx1⟩ := hi.heap_eq (w' := { w with drawn := w.drawn + 1 }) rfl rfl rfl rfl
  have hf1 := hf.mono (hx1.grow hi)
  have nl : ∀ {j : Nat}, ¬ Listed (Array.replicate ops.size false) j := by
    intro j hj
    unfold Listed at hj
    rw [Array.getD_eq_getD_getElem?, Array.getElem?_replicate] at hj
    split at hj <;> simp at hj
  refine wp_region_any hP ?_
  refine wpAny_front (cx := cx) (n := n) (B := B) (fr := fr) (σ := σ) (m := m) (vals := vals) (K := K) hmN' hlen c1 c2 c3 c4 c5 (fun j o v hj ho hv => ?_) (fun r a w hi hf hd hx => ?_) ops.size _ r a _ (by simp) ?_ (fun j i hj => ?_) (fun j _ => ?_) ⟨hf1.size, fun j d v _ hj => ?_, fun t _ => hf1.get t, hf1.defs⟩ hi1 hd (hx.trans hx1)
  · have h := k3 j o v (by rw [List.getElem?_take_of_lt hj]; exact ho) hv
    rw [List.take_take, Nat.min_eq_left (by omega)] at h
    exact h
  · rw [k2] at hk
    exact hk r a w hi hf hd hx
  · unfold unl; simp [List.countP_replicate]
  · exact absurd hj nl
  · exact nl
  · exact absurd hj nl

end
end Go.Ab
end

section
set_option linter.unusedVariables false
set_option linter.unusedSimpArgs false
namespace Go.Ab
open Go

theorem exec_w {P : Program} {w w' : World} {s : Sem Value} {v : Value} (h : s.run P w = .ok v w') : (do let x ← s; pure (Next.value x) : Sem Next).run P w = .ok (.value v) w' := by
  simp [h]

/-- A box is let go; its block may have turned. -/
theorem Inv.kill {cx : Cx} {r : Rl} {σ : Heap} {w w' : World} {id cur : Nat} {y : Option Box} (hi : Inv cx r σ w) (hσ : σ[id]? = some (cur, y))
    (hsame : ∀ k, (∀ o, y ≠ none → r.ρ id cur ≠ some (k, o)) → w'.heap[k]? = w.heap[k]?) (hs : w'.heap.size = w.heap.size)
    (hsize : ∀ (b : Nat) (c : Array Value) (t : TypeId) (f : Nat × Nat), w.heap[b]? = some (Obj.cells c t f) → ∃ (c' : Array Value) (f' : Nat × Nat), w'.heap[b]? = some (Obj.cells c' t f') ∧ c'.size = c.size)
    (hos : w'.os = w.os) (hout : w'.output = w.output) (htape : w'.tape = w.tape) : Inv cx r (σ.set id (cur, none)) w' ∧ Ext r σ w r (σ.set id (cur, none)) w' := by
  have hid : id < σ.length := by
    rcases Nat.lt_or_ge id σ.length with h | h
    · exact h
    · rw [List.getElem?_eq_none h] at hσ; cases hσ
  have hget : ∀ (j v : Nat) (x : Box), (σ.set id (cur, none))[j]? = some (v, some x) → j ≠ id ∧ σ[j]? = some (v, some x) := by
    intro j v x h
    rw [List.getElem?_set] at h
    by_cases hj : id = j
    · subst hj; rw [if_pos rfl] at h; simp [hid] at h
    · rw [if_neg hj] at h; exact ⟨fun e => hj e.symm, h⟩
  have hlive : ∀ b, Live r (σ.set id (cur, none)) b → Live r σ b := by
    rintro b ⟨j, v, x, o, h1, h2⟩
    exact ⟨j, v, x, o, (hget j v x h1).2, h2⟩
  have hnot : ∀ k, r.I k → ∀ o, y ≠ none → r.ρ id cur ≠ some (k, o) := by
    intro k hk o hy h
    cases hyy : y with
    | none => exact hy hyy
    | some x => subst hyy; exact hi.imm k ⟨id, cur, x, o, hσ, h⟩ hk
  have g : Grow r w r w' := ⟨fun _ h => h, fun _ h => h, fun _ _ _ h => h, fun b hb => hsame b (hnot b hb), hsize⟩
  refine ⟨⟨fun j v x h => ?_, fun j v b o h => ?_, fun i i' v v' x x' b o o' h1 h2 h3 h4 => hi.inj i i' v v' x x' b o o' (hget _ _ _ h1).2 (hget _ _ _ h2).2 h3 h4, fun b hb hI => hi.imm b (hlive b hb) hI, fun b hb => by rw [hs]; exact hi.Ilt b hb, hi.SI, ?_⟩,
    ⟨fun _ h => h, fun _ h => h, fun _ h => .inl h, fun _ h => .inl h, fun _ _ _ h => h, by omega, by simp, fun b hb hnl => ?_, fun b hb => .inl (hlive b hb), hsize, hos, hout, htape, fun id ver b o h => .inl ⟨ver, o, h⟩⟩⟩
  · obtain ⟨hj, h1⟩ := hget j v x h
    rcases hi.box j v x h1 with ⟨b, o, h2, h3⟩ | h2
    · refine .inl ⟨b, o, h2, h3.mono g (hsame b (fun o' hy h4 => ?_))⟩
      cases hyy : y with
      | none => exact hy hyy
      | some x' => subst hyy; exact hj (hi.inj j id v cur x x' b o o' h1 hσ h2 h4)
    · exact .inr h2
  · obtain ⟨⟨c, x, h1, h2⟩, h3⟩ := hi.lt j v b o h
    refine ⟨?_, by omega⟩
    by_cases hj : id = j
    · subst hj
      rw [hσ] at h1; simp only [Option.some.injEq, Prod.mk.injEq] at h1
      exact ⟨cur, none, by simp [hid], by omega⟩
    · exact ⟨c, x, by rw [List.getElem?_set, if_neg hj]; exact h1, h2⟩
  · exact hi.glob.mono g hi.SI
  · refine hsame b (fun o hy h => hnl ?_)
    cases hyy : y with
    | none => exact absurd hyy hy
    | some x => subst hyy; exact ⟨id, cur, x, o, hσ, h⟩

section
variable {cx : Cx} {n : Nat} {B : Bs} {k : List AI} {Q : Post} {fr : Fr} {σ : Heap}

/-- A call of a library's function that hands back what it got. -/
theorem S_same {all : Array Oper} {o : Oper} {l : List Oper} {K : List Nat} {f : FuncId} {x : AV} (hext : ∀ (v : Value) (w : World), (callFunc f #[v]).run cx.P w = .ok (.value v) w) (hc : callA cx fr o.op = some (f, [x])) (hg : guardA all o K fr = some true)
    (hd : dstOk n o.dst = true) (hk : S cx n B (.ops all l K :: k) Q (setA o.dst x fr) σ) : S cx n B (.ops all (o :: l) K :: k) Q fr σ := by
  refine S_do hg hd (fun r a w hi hf => ?_) hk
  obtain ⟨vs, h1, h2⟩ := callA_go hi hf hc
  obtain ⟨v, rfl⟩ : ∃ v, vs = #[v] := by
    have := h2.1
    exact ⟨vs[0]'(by simp at this; omega), Array.ext (by simpa using this) (fun i h3 h4 => by simp at h4; subst h4; rfl)⟩
  have h3 := h2.2 0 (by simp)
  exact ⟨r, w, v, .inl (by rw [h1, hext]), h3, hi, Ext.refl _ _ _⟩

def toU (cx : Cx) (fr : Fr) (σ : Heap) (o : Op) : Option (List Prop × AV) :=
  match o with
  | .convert s d x => match cx.P.underlying s, cx.P.underlying d, ev cx fr x with
    | some (.pointer t), some .unsafePointer, .ptr id ver off => match boxAt σ id, szOf cx.P t with
      | some (cur, cs, _), some m => some ([ver = cur, off < cs.length, m ≠ 0], .ptr id ver off)
      | _, _ => none
    | _, _, _ => none
  | _ => none

theorem S_toU {all : Array Oper} {o : Oper} {l : List Oper} {K : List Nat} {C : List Prop} {v : AV} (h : toU cx fr σ o.op = some (C, v)) (hg : guardA all o K fr = some true) (hd : dstOk n o.dst = true) (hC : AllP C)
    (hk : S cx n B (.ops all l K :: k) Q (setA o.dst v fr) σ) : S cx n B (.ops all (o :: l) K :: k) Q fr σ := by
  refine S_do hg hd (fun r a w hi hf => ?_) hk
  have he : ∀ x, VRel r w (a.eval x) (ev cx fr x) := fun x => ev_rel hi hf x
  obtain ⟨dst, op, ty, pos, aft, guard⟩ := o
  simp only at h
  unfold toU at h
  split at h
  case h_2 => cases h
  rename_i s d x
  have hx := he x
  split at h
  case h_2 => cases h
  rename_i t id ver off hs hdd hxe
  rw [hxe] at hx
  split at h
  case h_2 => cases h
  rename_i cur cs g m hb hm
  simp only [Option.some.injEq, Prod.mk.injEq] at h; obtain ⟨rfl, rfl⟩ := h
  obtain ⟨hv, hlt, hm0, _⟩ := hC
  unfold execOp
  try simp only
  generalize hz : a.eval x = z at hx
  cases hx
  rename_i b o' hρ
  obtain ⟨c, ty', lo, hi', q1, q2, q3⟩ := hi.cells hb hv hρ
  have hsz : o' + off < c.size := by
    obtain ⟨v, hv', _⟩ := q2 off hlt
    rcases Nat.lt_or_ge (o' + off) c.size with h | h
    · exact h
    · rw [Array.getElem?_eq_none h] at hv'; cases hv'
  have hinfo : ∃ j, cx.P.info? t = some j ∧ j.size ≠ 0 := by
    unfold szOf at hm
    split at hm
    · rename_i j hj; simp only [Option.some.injEq] at hm; exact ⟨j, hj, by rw [hm]; exact hm0⟩
    · cases hm
  obtain ⟨j, hj, hj0⟩ := hinfo
  refine ⟨r, w, .pointer (some ⟨b, o' + off, none⟩), .inl (exec_v ?_), .ptr hρ, hi, Ext.refl _ _ _⟩
  exact Lib.run_to_unsafe (e := ty') (cells := c.size) w _ hs hdd hj hj0 (by simp [World.shape?, q1]) hsz

def fromU (cx : Cx) (fr : Fr) (σ : Heap) (o : Op) : Option (List Prop × AV) :=
  match o with
  | .convert s d x => match cx.P.underlying s, cx.P.underlying d, ev cx fr x with
    | some .unsafePointer, some (.pointer u), .ptr id ver off => match σ[id]? with
      | some (cur, some (.cells cs ⟨_, some T⟩)) => some ([ver = cur, (cx.P.info? u).isSome = true, 0 < cx.P.cellsOf T, cx.P.cellsOf T ≤ cs.length, ∀ k, liesAt cx.P cx.P.depth T (k + 1) off u 1 = true], .ptr id ver off)
      | _ => none
    | _, _, _ => none
  | _ => none

theorem S_fromU {all : Array Oper} {o : Oper} {l : List Oper} {K : List Nat} {C : List Prop} {v : AV} (h : fromU cx fr σ o.op = some (C, v)) (hg : guardA all o K fr = some true) (hd : dstOk n o.dst = true) (hC : AllP C)
    (hk : S cx n B (.ops all l K :: k) Q (setA o.dst v fr) σ) : S cx n B (.ops all (o :: l) K :: k) Q fr σ := by
  refine S_do hg hd (fun r a w hi hf => ?_) hk
  have he : ∀ x, VRel r w (a.eval x) (ev cx fr x) := fun x => ev_rel hi hf x
  obtain ⟨dst, op, ty, pos, aft, guard⟩ := o
  simp only at h
  unfold fromU at h
  split at h
  case h_2 => cases h
  rename_i s d x
  have hx := he x
  split at h
  case h_2 => cases h
  rename_i u id ver off hs hdd hxe
  rw [hxe] at hx
  split at h
  case h_2 => cases h
  rename_i cur cs ro T hb
  simp only [Option.some.injEq, Prod.mk.injEq] at h; obtain ⟨rfl, rfl⟩ := h
  obtain ⟨hv, hinf, h0, hle, hlies, _⟩ := hC
  unfold execOp
  try simp only
  generalize hz : a.eval x = z at hx
  cases hx
  rename_i b o' hρ
  have hbx : boxAt σ id = some (cur, cs, ⟨ro, some T⟩) := by simp [boxAt, hb]
  obtain ⟨c, ty', lo, hi', q1, q2, q3, q4, q5⟩ := hi.cells hbx hv hρ
  obtain ⟨rfl, rfl⟩ := q5 T rfl
  have hcs : cs.length ≤ c.size := by
    rcases Nat.eq_zero_or_pos cs.length with h | h
    · omega
    · obtain ⟨v, hv', _⟩ := q2 (cs.length - 1) (by omega)
      rcases Nat.lt_or_ge (0 + (cs.length - 1)) c.size with h' | h'
      · omega
      · rw [Array.getElem?_eq_none h'] at hv'; cases hv'
  obtain ⟨j, hj⟩ := Option.isSome_iff_exists.1 hinf
  have hcnt : ∃ k, c.size / cx.P.cellsOf ty' = k + 1 := ⟨c.size / cx.P.cellsOf ty' - 1, by have := Nat.div_pos (Nat.le_trans hle hcs) h0; omega⟩
  obtain ⟨k, hk'⟩ := hcnt
  refine ⟨r, w, .pointer (some ⟨b, 0 + off, none⟩), .inl (exec_v ?_), .ptr hρ, hi, Ext.refl _ _ _⟩
  exact Lib.run_from_unsafe (e := ty') (cells := c.size) w _ hs hdd hj (by simp [World.shape?, q1]) (by rw [hk', Nat.zero_add]; exact hlies k)

/-- A string of a builder's bytes; the bytes are let go. -/
def uStr (cx : Cx) (fr : Fr) (σ : Heap) (o : Op) (s : List UInt8) : Option (List Prop × Heap) :=
  match o with
  | .call { callee := .builtin .unsafeString, args := args, argTypes := ts } => match args.toList, ts.toList with
    | [p, m], [pt, _] => match ev cx fr p, ev cx fr m with
      | .nilp, .int .i64 j => some ([j = 0, s = []], σ)
      | .eptr id ver 0, .int .i64 j => match σ[id]?, cx.P.underlying pt with
        | some (cur, some (.cells cs ⟨_, some T⟩)), some (.pointer e) => some ([ver = cur, T = e, cx.P.cellsOf e = 1, j = s.length, s ≠ [], s.length ≤ 9223372036854775807, cs.take s.length = s.map byteAV], σ.set id (cur, none))
        | _, _ => none
      | _, _ => none
    | _, _ => none
  | _ => none

theorem S_ustr {all : Array Oper} {o : Oper} {l : List Oper} {K : List Nat} {C : List Prop} {σ' : Heap} (s : List UInt8) (h : uStr cx fr σ o.op s = some (C, σ')) (hg : guardA all o K fr = some true) (hd : dstOk n o.dst = true) (hC : AllP C)
    (hk : S cx n B (.ops all l K :: k) Q (setA o.dst (.str s) fr) σ') : S cx n B (.ops all (o :: l) K :: k) Q fr σ := by
  refine S_do hg hd (fun r a w hi hf => ?_) hk
  have he : ∀ x, VRel r w (a.eval x) (ev cx fr x) := fun x => ev_rel hi hf x
  obtain ⟨dst, op, ty, pos, aft, guard⟩ := o
  simp only at h
  unfold uStr at h
  split at h
  case h_2 => cases h
  rename_i args ts
  obtain ⟨bs, hbs⟩ := run_len_call cx.P w a.eval .unsafeString args ts dst ty pos aft guard
  rw [hbs]
  split at h
  case h_2 => cases h
  rename_i p m pt it hargs hts
  have h1 : args = #[p, m] := by rw [← Array.toArray_toList (xs := args), hargs]
  have h2 : ts = #[pt, it] := by rw [← Array.toArray_toList (xs := ts), hts]
  subst h1; subst h2
  have hp := he p
  have hm := he m
  simp only [builtin, List.map_toArray, List.map_cons, List.map_nil]
  generalize a.eval p = p' at hp ⊢
  generalize a.eval m = m' at hm ⊢
  split at h
  · rename_i j hpe hme
    rw [hpe] at hp; rw [hme] at hm
    simp only [Option.some.injEq, Prod.mk.injEq] at h; obtain ⟨rfl, rfl⟩ := h
    obtain ⟨rfl, rfl, _⟩ := hC
    cases hp; cases hm
    exact ⟨r, w, _, .inl (exec_v (Lib.run_unsafeString_none w pt it ty none)), .str rfl, hi, Ext.refl _ _ _⟩
  · rename_i id ver j hpe hme
    rw [hpe] at hp; rw [hme] at hm
    split at h
    case h_2 => cases h
    rename_i cur cs ro T e hσ hpt
    simp only [Option.some.injEq, Prod.mk.injEq] at h; obtain ⟨rfl, rfl⟩ := h
    obtain ⟨rfl, rfl, hc1, rfl, hne, h63, htk, _⟩ := hC
    cases hp; cases hm
    rename_i b o' hρ
    have hbx : boxAt σ id = some (ver, cs, ⟨ro, some T⟩) := by simp [boxAt, hσ]
    obtain ⟨c, ty', lo, hi', q1, q2, q3, q4, q5⟩ := hi.cells hbx rfl hρ
    obtain ⟨rfl, rfl⟩ := q5 T rfl
    have hlen : s.length ≤ cs.length := by
      have := congrArg List.length htk
      simp only [List.length_take, List.length_map] at this
      omega
    have hcell : ∀ i x, s[i]? = some x → w.cell? ((⟨b, 0, none⟩ : Addr).add i) = some (.int .u8 x.toNat) := by
      intro i x hx
      have hi1 : i < s.length := by
        rcases Nat.lt_or_ge i s.length with h | h
        · exact h
        · rw [List.getElem?_eq_none h] at hx; cases hx
      obtain ⟨v, hv, hvr⟩ := q2 i (by omega)
      have hx2 : cs[i] = byteAV x := by
        have h3 : (cs.take s.length)[i]? = some (byteAV x) := by rw [htk, List.getElem?_map, hx]; rfl
        rw [List.getElem?_take_of_lt hi1, List.getElem?_eq_getElem (by omega)] at h3
        exact Option.some.inj h3
      rw [hx2] at hvr
      cases hvr
      rw [Addr.add_lit]
      simp only [World.cell?, q1]
      simpa using hv
    have hcs : s.length ≤ c.size := by
      have hpos : 0 < s.length := List.length_pos_iff.2 hne
      obtain ⟨v, hv, _⟩ := q2 (s.length - 1) (by omega)
      rcases Nat.lt_or_ge (0 + (s.length - 1)) c.size with h | h
      · omega
      · rw [Array.getElem?_eq_none h] at hv; cases hv
    have hrun := Lib.run_unsafeString_row w pt it ty ty' hpt hc1 b c.size (by simp [World.shape?, q1]) s hne hcs h63 hcell
    have hfz : ∃ f : Obj → Obj, (∀ c t fz, ∃ fz', f (.cells c t fz) = .cells c t fz') ∧ w.freeze ⟨b, 0, none⟩ s.length = { w with heap := w.heap.modify b f } := by
      refine ⟨_, ?_, by unfold World.freeze; rw [if_neg (by simpa using hne)]⟩
      rintro c t ⟨lo, hi⟩
      exact ⟨_, rfl⟩
    obtain ⟨f, hf1, hfz⟩ := hfz
    have hk2 := hi.kill (w' := w.freeze ⟨b, 0, none⟩ s.length) hσ (fun k hk => by
        rw [hfz]
        simp only [Array.getElem?_modify]
        by_cases hkb : b = k
        · subst hkb; exact absurd hρ (hk 0 (by simp))
        · rw [if_neg hkb]) (by rw [hfz]; simp) (fun b2 c2 t2 f2 hc2 => by
        rw [hfz]
        simp only [Array.getElem?_modify]
        by_cases hkb : b = b2
        · subst hkb
          rw [if_pos rfl, hc2]
          obtain ⟨fz', hfz'⟩ := hf1 c2 t2 f2
          exact ⟨c2, fz', by simp [hfz'], rfl⟩
        · rw [if_neg hkb]; exact ⟨c2, f2, hc2, rfl⟩) (by rw [hfz]) (by rw [hfz]) (by rw [hfz])
    refine ⟨r, w.freeze ⟨b, 0, none⟩ s.length, .string ⟨s.toArray⟩, .inl (exec_w ?_), .str (by simp), hk2.1, hk2.2⟩
    simpa using hrun
  · cases h

end
end Go.Ab
end
