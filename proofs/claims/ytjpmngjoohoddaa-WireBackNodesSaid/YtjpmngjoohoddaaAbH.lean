/-
  append.
-/
import Derived.Test.YtjpmngjoohoddaaAbG
set_option linter.unusedVariables false
set_option linter.unusedSimpArgs false
namespace Go.Ab
open Go

def byteAV (c : UInt8) : AV := .int .u8 c.toNat

def flatA (sz : Nat) (xs : List AV) : List AV :=
  match sz with
  | 1 => xs
  | _ => xs.flatMap AV.cells

theorem flatMap_cells_one {xs : List AV} (h : ∀ x ∈ xs, x.one = true) : xs.flatMap AV.cells = xs := by
  induction xs with
  | nil => rfl
  | cons x r ih =>
    have hx : x.cells = [x] := by
      have := h x (by simp)
      cases x <;> first | rfl | simp [AV.one] at this
    simp only [List.flatMap_cons, hx, ih (fun y hy => h y (by simp [hy])), List.singleton_append]

theorem flatA_eq {sz : Nat} {xs : List AV} (h : ∀ x ∈ flatA sz xs, x.one = true) : flatA sz xs = xs.flatMap AV.cells := by
  unfold flatA at *
  split at h
  · rw [flatMap_cells_one h]
  · rfl

theorem flatMap_cells_length {sz : Nat} : ∀ {xs : List AV}, (∀ x ∈ xs, x.cells.length = sz) → (xs.flatMap AV.cells).length = xs.length * sz
  | [], _ => by simp
  | x :: r, h => by
    have ih := flatMap_cells_length (xs := r) (fun y hy => h y (List.mem_cons_of_mem _ hy))
    simp only [List.flatMap_cons, List.length_append, h x (List.mem_cons_self ..), ih, List.length_cons, Nat.add_mul, Nat.one_mul]
    omega

theorem flatMap_cells_get {sz : Nat} : ∀ {xs : List AV}, (∀ x ∈ xs, x.cells.length = sz) → ∀ (e j : Nat) (he : e < xs.length) (hj : j < sz), (xs.flatMap AV.cells)[e * sz + j]? = (AV.cells (xs[e]'he))[j]?
  | [], _, e, j, he, _ => absurd he (by simp)
  | x :: r, h, 0, j, he, hj => by
    simp only [List.flatMap_cons, Nat.zero_mul, Nat.zero_add, List.getElem_cons_zero]
    rw [List.getElem?_append_left (by rw [h x (by simp)]; exact hj)]
  | x :: r, h, e + 1, j, he, hj => by
    simp only [List.flatMap_cons, List.getElem_cons_succ]
    rw [List.getElem?_append_right (by rw [h x (by simp), Nat.add_mul]; omega), h x (by simp)]
    rw [show (e + 1) * sz + j - sz = e * sz + j by rw [Nat.add_mul]; omega]
    exact flatMap_cells_get (fun y hy => h y (by simp [hy])) e j (by simpa using he) hj

/-- Some cells that were read at one time. -/
def Vals (r : Rl) (w : World) (vs : List Value) (ys : List AV) : Prop := vs.length = ys.length ∧ ∀ i (h : i < ys.length), ∃ v, vs[i]? = some v ∧ VRel r w v ys[i]

theorem Vals.one {r : Rl} {w : World} {vs : List Value} {ys : List AV} (h : Vals r w vs ys) (h1 : ∀ y ∈ ys, y.one = true) : ∀ v ∈ vs, v.oneCell' = true := by
  intro v hv
  obtain ⟨i, hi, rfl⟩ := List.getElem_of_mem hv
  obtain ⟨u, h2, h3⟩ := h.2 i (by rw [← h.1]; exact hi)
  rw [List.getElem?_eq_getElem hi] at h2
  simp only [Option.some.injEq] at h2
  rw [h2]
  exact h3.one (h1 _ (List.getElem_mem _))

theorem Vals.mono {r r' : Rl} {w w' : World} {vs : List Value} {ys : List AV} (g : Grow r w r' w') (h : Vals r w vs ys) : Vals r' w' vs ys :=
  ⟨h.1, fun i hi => by obtain ⟨v, h1, h2⟩ := h.2 i hi; exact ⟨v, h1, h2.mono g⟩⟩

theorem Cells.vals {r : Rl} {w : World} {b o : Nat} {cs : List AV} (h : Cells r w b o cs) : ∃ vs : List Value, Vals r w vs cs ∧ ∀ j v, vs[j]? = some v → w.cell? ⟨b, o + j, none⟩ = some v := by
  have h3 : ∀ i, ∃ v, ∀ hl : i < cs.length, w.cell? ⟨b, o + i, none⟩ = some v ∧ VRel r w v cs[i] := fun i => by
    by_cases hl : i < cs.length
    · obtain ⟨v, hv, hr⟩ := h i hl; exact ⟨v, fun _ => ⟨hv, hr⟩⟩
    · exact ⟨undef, fun h => absurd h hl⟩
  refine ⟨(List.range cs.length).map fun i => (h3 i).choose, ⟨by simp, fun i hi => ⟨(h3 i).choose, by simp [hi], ((h3 i).choose_spec hi).2⟩⟩, fun j v hv => ?_⟩
  simp only [List.getElem?_map] at hv
  by_cases hj : j < cs.length
  · rw [List.getElem?_range hj] at hv
    simp only [Option.map_some, Option.some.injEq] at hv
    rw [← hv]
    exact ((h3 j).choose_spec hj).1
  · rw [List.getElem?_eq_none (by simp; omega)] at hv; cases hv

def dropA {α : Type} (off : Nat) (cs : List α) : List α :=
  match off with
  | 0 => cs
  | k + 1 => cs.drop (k + 1)
theorem dropA_eq {α : Type} (off : Nat) (cs : List α) : dropA off cs = cs.drop off := by cases off <;> rfl

/-- What is appended: how many elements, and their cells. -/
def aSrc (sz : Nat) (x : AV) (σ : Heap) : Option (List Prop × Nat × List AV) :=
  match x with
  | .nils => some ([], 0, [])
  | .sl _ _ s xs => some ([s = sz, ∀ y ∈ flatA sz xs, y.one = true], xs.length, flatA sz xs)
  | .ms id ver off len s _ => match boxAt σ id with
    | some (cur, cs, _) => some ([ver = cur, s = sz, off + len * sz ≤ cs.length], len, (dropA off cs).take (len * sz))
    | none => none
  | .str s => match sz with
    | 1 => some ([], s.length, s.map byteAV)
    | _ => none
  | _ => none

theorem sl_cells {r : Rl} {w : World} {st fl : Bool} {a : Option Addr} {sz n cap : Nat} {xs : List AV} (h : VRel r w (.slice a n cap) (.sl st fl sz xs)) :
    n = xs.length ∧ n ≤ cap ∧ (fl = true → cap = n) ∧ ((xs = [] ∧ n = 0) ∨ ∃ b o, a = some ⟨b, o, none⟩ ∧ r.I b ∧ (∀ x ∈ xs, x.cells.length = sz) ∧ Cells r w b o (xs.flatMap AV.cells)) := by
  cases h with
  | sl0 hf => exact ⟨rfl, Nat.zero_le _, hf, .inl ⟨rfl, rfl⟩⟩
  | sl hn hc0 hf hI hS hsz f hc hv =>
    rename_i b o
    refine ⟨hn, hc0, hf, .inr ⟨b, o, rfl, hI, hsz, fun i hi => ?_⟩⟩
    rw [flatMap_cells_length hsz] at hi
    have hszp : 0 < sz := by
      rcases Nat.eq_zero_or_pos sz with h0 | h0
      · subst h0; simp at hi
      · exact h0
    have he : i / sz < xs.length := Nat.div_lt_of_lt_mul (by rw [Nat.mul_comm]; exact hi)
    have hj : i % sz < sz := Nat.mod_lt _ hszp
    have hi' : i = (i / sz) * sz + i % sz := by rw [Nat.mul_comm]; exact (Nat.div_add_mod i sz).symm
    have hg := flatMap_cells_get hsz (i / sz) (i % sz) he hj
    rw [← hi'] at hg
    have hl : i % sz < (AV.cells (xs[i / sz]'he)).length := by rw [hsz _ (List.getElem_mem _)]; exact hj
    refine ⟨f (i / sz) (i % sz), ?_, ?_⟩
    · have := hc _ he _ hj
      rw [Nat.add_assoc, ← hi'] at this
      exact this
    · rw [List.getElem?_eq_getElem hl, List.getElem?_eq_getElem (by rw [flatMap_cells_length hsz]; exact hi)] at hg
      simp only [Option.some.injEq] at hg
      rw [hg]
      exact hv _ he _ hl

theorem aSrc_run {cx : Cx} {r : Rl} {σ : Heap} {w : World} {sz n : Nat} {x : Value} {x' : AV} {C : List Prop} {ys : List AV} (hi : Inv cx r σ w) (h : aSrc sz x' σ = some (C, n, ys)) (hC : AllP C) (hx : VRel r w x x') :
    (∀ w' : World, (Builtin.lenOf x).run cx.P w' = .ok n w') ∧ ys.length = n * sz ∧
    ∃ vs : List Value, Vals r w vs ys ∧ (∀ w' : World, w'.heap = w.heap → (Builtin.firstCells sz n x).run cx.P w' = .ok vs.toArray w') := by
  have hload : ∀ (b o : Nat) (cs : List AV) (a' : Addr) (cap : Nat), Cells r w b o cs → cs.length = n * sz → a' = ⟨b, o, none⟩ →
      ∃ vs : List Value, Vals r w vs cs ∧ (∀ w' : World, w'.heap = w.heap → (Builtin.firstCells sz n (.slice (some a') n cap)).run cx.P w' = .ok vs.toArray w') := by
    intro b o cs a' cap hc hl ha
    subst ha
    obtain ⟨vs, h1, h2⟩ := hc.vals
    refine ⟨vs, h1, fun w' hw' => run_firstCells_some (P := cx.P) w' sz n _ n cap vs (by rw [h1.1, hl]) (fun j v hv => ?_)⟩
    rw [Addr.add_lit]
    have h3 := h2 j v hv
    simpa [World.cell?, hw'] using h3
  have hnil : ∀ (a : Option Addr) (cap : Nat), n = 0 → ∃ vs : List Value, Vals r w vs [] ∧ (∀ w' : World, w'.heap = w.heap → (Builtin.firstCells sz n (.slice a n cap)).run cx.P w' = .ok vs.toArray w') := by
    intro a cap h0
    subst h0
    refine ⟨[], ⟨rfl, fun i h => absurd h (by simp)⟩, fun w' _ => ?_⟩
    cases a with
    | none => simp [Builtin.firstCells]
    | some a => simp [Builtin.firstCells, loadCells, loadCellsFrom]
  unfold aSrc at h
  split at h
  · simp only [Option.some.injEq, Prod.mk.injEq] at h; obtain ⟨rfl, rfl, rfl⟩ := h
    cases hx
    exact ⟨fun w' => by simp [Builtin.lenOf], by simp, hnil _ _ rfl⟩
  · rename_i st fl s xs
    simp only [Option.some.injEq, Prod.mk.injEq] at h; obtain ⟨rfl, rfl, rfl⟩ := h
    obtain ⟨h1, h2, _⟩ := hC
    subst h1
    cases x with
    | slice a n cap =>
      obtain ⟨h3, h4, h5, h6⟩ := sl_cells hx
      subst h3
      have hfl := flatA_eq h2
      refine ⟨fun w' => by simp [Builtin.lenOf], ?_, ?_⟩
      · rcases h6 with ⟨h7, h8⟩ | ⟨b, o, h7, h8, h9, h10⟩
        · subst h7; rw [hfl]; simp
        · rw [hfl, flatMap_cells_length h9]
      · rcases h6 with ⟨h7, h8⟩ | ⟨b, o, h7, h8, h9, h10⟩
        · subst h7
          rw [hfl]
          exact hnil a cap rfl
        · rw [hfl]
          subst h7
          exact hload b o _ _ cap h10 (flatMap_cells_length h9) rfl
    | _ => cases hx
  · rename_i id ver off len s fl
    split at h
    · rename_i cur cs ro hb
      simp only [Option.some.injEq, Prod.mk.injEq] at h; obtain ⟨rfl, rfl, rfl⟩ := h
      obtain ⟨h1, h2, h3, _⟩ := hC
      rw [dropA_eq]
      cases hx with
      | ms0 => exact ⟨fun w' => by simp [Builtin.lenOf], by simp, by simpa using hnil _ _ rfl⟩
      | ms hρ hcap hn hf =>
        refine ⟨fun w' => by simp [Builtin.lenOf], by rw [List.length_take, List.length_drop]; omega, ?_⟩
        exact hload _ _ _ _ _ (((hi.cells hb h1 hρ).cells'.drop off).take _) (by rw [List.length_take, List.length_drop]; omega) rfl
    · cases h
  · rename_i s
    split at h
    · simp only [Option.some.injEq, Prod.mk.injEq] at h; obtain ⟨rfl, rfl, rfl⟩ := h
      cases hx with
      | str hs =>
        rename_i u
        subst hs
        have hsz : u.size = u.data.toList.length := by rw [Array.length_toList]; rfl
        refine ⟨fun w' => by rw [← hsz]; rfl, by simp, (u.data.toList.map fun b => Value.int .u8 b.toNat), ⟨by simp, fun i hi => ?_⟩, fun w' _ => ?_⟩
        · simp only [List.length_map] at hi
          refine ⟨.int .u8 (u.data.toList[i]).toNat, by simp [List.getElem?_eq_getElem hi], ?_⟩
          simp only [List.getElem_map, byteAV]
          exact .int
        · simp only [Builtin.firstCells, Sem.run_pure]
          congr 1
          apply Array.ext'
          simp only [Array.toList_map, List.toList_toArray]
          congr 1
          rw [extract_toList, List.drop_zero]
          exact List.take_of_length_le (Nat.le_refl _)
    · cases h
  · cases h

theorem run_append_grow' {P : Program} {w : World} {sT xT ty e : TypeId} {i : TypeInfo} {z : Value} {sz n sLen sCap : Nat} {base : Option Addr} {x : Value} {olds news : List Value} {d : TypeDesc}
    (ht : P.underlying sT = some (.slice e)) (hd : P.underlying xT = some d) (hdk : ∀ k, d ≠ .int k) (hi : P.info? e = some i) (hz : i.zero = some z) (hsz : i.size = sz)
    (hlen : ∀ w' : World, (Builtin.lenOf x).run P w' = .ok n w') (ho : ∀ w' : World, w'.heap = w.heap → (Builtin.firstCells sz sLen (.slice base sLen sCap)).run P w' = .ok olds.toArray w')
    (hnw : ∀ w' : World, w'.heap = w.heap → (Builtin.firstCells sz n x).run P w' = .ok news.toArray w') (hg : sCap < sLen + n) (hb : (sLen + n) * i.bytes ≤ 140737488355328) (h63 : sLen + n ≤ 9223372036854775807) :
    ∃ (rest : Array Value) (cap : Nat), (Builtin.append_ #[sT, xT] ty #[.slice base sLen sCap, x]).run P w = .ok (.slice (some ⟨w.heap.size, 0, none⟩) (sLen + n) cap) (w.drew.alloc (.cells (olds.toArray ++ news.toArray ++ rest) e)) ∧
      sLen + n ≤ cap ∧ rest.size = (cap - (sLen + n)) * z.cells.size := by
  subst hsz
  have hn : ¬ (sLen + n ≤ sCap) := by omega
  have h63' : ¬ (9223372036854775807 < ((sLen : Int) + (n : Int))) := by omega
  have h48 := growslice_fits (bytes := i.bytes) hg hb
  have h48' : ¬ (281474976710656 < Builtin.nextslicecap (sLen + n) sCap * i.bytes) := by omega
  have h1 := ho w.drew rfl
  have h2 := hnw w.drew rfl
  refine ⟨Builtin.zeroCells z.cells (grownCap w (sLen + n) sCap e - (sLen + n)), grownCap w (sLen + n) sCap e, ?_, grownCap_ge _ _ _ _, by simp [Builtin.zeroCells]⟩
  have hda : (match d with | .int _ => true | _ => false) = false := by cases d <;> first | rfl | exact absurd rfl (hdk _)
  simp only [Builtin.append_, List.getElem?_toArray, List.getElem?_cons_zero, List.getElem?_cons_succ, Sem.run_bind, run_underlying ht, run_underlying hd, sizeOf, typeInfo, run_program, hi, Sem.run_pure, Result.andThen_ok, hlen, hda, hn, if_false, Bool.false_eq_true, Bool.not_false, if_true]
  simp [hlen, hn, h63', h48', Question.forced, h1, h2, newRow, grownCap, zeroValue, typeInfo, hi, hz, hda]
  congr 2
  apply Array.ext'
  simp [List.append_assoc]

def stO (base : Option Addr) (k : Nat) (vs : List Value) : Sem Unit := match base with | some a => storeCells (a.add k) vs | none => pure ()

theorem stO_nil (P : Program) (w : World) (base : Option Addr) (k : Nat) : (stO base k []).run P w = .ok () w := by cases base <;> rfl

theorem run_append_room' {P : Program} {w : World} {sT xT ty e : TypeId} {i : TypeInfo} {sz n sLen sCap : Nat} {base : Option Addr} {x : Value} {news : List Value} {d : TypeDesc}
    (ht : P.underlying sT = some (.slice e)) (hd : P.underlying xT = some d) (hdk : ∀ k, d ≠ .int k) (hi : P.info? e = some i) (hsz : i.size = sz)
    (hlen : ∀ w' : World, (Builtin.lenOf x).run P w' = .ok n w')
    (hnw : ∀ w' : World, w'.heap = w.heap → (Builtin.firstCells sz n x).run P w' = .ok news.toArray w') (hg : sLen + n ≤ sCap) {w2 : World}
    (hst : (stO base (sLen * sz) news).run P w = .ok () w2) :
    (Builtin.append_ #[sT, xT] ty #[.slice base sLen sCap, x]).run P w = .ok (.slice base (sLen + n) sCap) w2 := by
  subst hsz
  have hda : (match d with | .int _ => true | _ => false) = false := by cases d <;> first | rfl | exact absurd rfl (hdk _)
  have h2 := hnw w rfl
  simp only [Builtin.append_, List.getElem?_toArray, List.getElem?_cons_zero, List.getElem?_cons_succ, Sem.run_bind, run_underlying ht, run_underlying hd, sizeOf, typeInfo, run_program, hi, Sem.run_pure, Result.andThen_ok, hlen, hda, hg, if_true, Bool.not_false, h2]
  cases base with
  | none => simp only [stO, Sem.run_pure] at hst; cases hst; simp [hlen, hg, hda, h2]
  | some a => simp only [stO] at hst; simp [hlen, hg, hda, h2, hst]

end Go.Ab
