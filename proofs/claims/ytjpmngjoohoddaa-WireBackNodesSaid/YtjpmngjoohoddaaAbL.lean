/-
  The bytes of a text; made slices; new variables; iterators over texts; all operations in one function.
-/
import Derived.Test.YtjpmngjoohoddaaAbK
set_option linter.unusedVariables false
set_option linter.unusedSimpArgs false
namespace Go.Ab
open Go

theorem freeze_alloc (w : World) (c : Array Value) (t : TypeId) (k : Nat) : (w.alloc (.cells c t)).freeze ⟨w.heap.size, k, none⟩ 1 = w.alloc (.cells c t (k, k + 1)) := by
  unfold World.freeze
  rw [if_neg (by decide)]
  show ({ w with heap := (w.heap.push (.cells c t)).modify w.heap.size _ } : World) = { w with heap := w.heap.push (.cells c t (k, k + 1)) }
  congr 1
  apply Array.ext
  · simp
  · intro i h1 h2
    simp only [Array.size_modify, Array.size_push] at h1
    rw [Array.getElem_modify]
    by_cases hi : w.heap.size = i
    · subst hi
      simp
    · rw [if_neg hi]
      rw [Array.getElem_push_lt (by omega), Array.getElem_push_lt (by omega)]

def aBytes (P : Program) (mu : Bool) (src dst : TypeId) (x : AV) (σ : Heap) : Option (AV × Heap) :=
  match P.underlying src, P.underlying dst, x with
  | some .string, some (.slice e), .str s => bif isU8 P e then
      match mu with
      | false => some (.sl true false 1 (s.map byteAV), σ)
      | true => match allocH σ (.cells (s.map byteAV) ⟨false, tyU8 P e⟩) with
        | (id, ver, σ') => some (.ms id ver 0 s.length 1 false, σ')
    else none
  | _, _, _ => none

theorem aBytes_run {cx : Cx} {r : Rl} {σ σ' : Heap} {w : World} {mu : Bool} {src dst : TypeId} {x : Value} {x' v : AV} (hi : Inv cx r σ w) (h : aBytes cx.P mu src dst x' σ = some (v, σ')) (hx : VRel r w x x') :
    ∃ v' w' r', (convert src dst x).run cx.P w = .ok v' w' ∧ VRel r' w' v' v ∧ Inv cx r' σ' w' ∧ Ext r σ w r' σ' w' := by
  unfold aBytes at h
  split at h
  case h_2 => cases h
  rename_i e s h1 h2
  cases hu : isU8 cx.P e with
  | false => rw [hu] at h; cases h
  | true =>
  rw [hu] at h
  simp only [cond_true] at h
  have he := isU8_eq hu
  cases hx with
  | str hs =>
  rename_i u
  subst hs
  have hsz : u.size = u.data.toList.length := by rw [Array.length_toList]; rfl
  have hge := grownCap_ge w u.size 0 e
  have hrun : (convert src dst (.string u)).run cx.P w = .ok (.slice (some ⟨w.heap.size, 0, none⟩) u.size (grownCap w u.size 0 e))
      (w.drew.alloc (.cells (u.data.map (fun b => Value.int .u8 b.toNat) ++ Array.replicate (grownCap w u.size 0 e - u.size) (.int .u8 0)) e
        (((u.data.map (fun b => Value.int .u8 b.toNat) ++ Array.replicate (grownCap w u.size 0 e - u.size) (.int .u8 0)) : Array Value).size, ((u.data.map (fun b => Value.int .u8 b.toNat) ++ Array.replicate (grownCap w u.size 0 e - u.size) (.int .u8 0)) : Array Value).size + 1))) := by
    rw [← freeze_alloc]
    have hshape : ∀ c : Array Value, (w.drew.alloc (.cells c e)).shape? w.heap.size = some (e, c.size) := by
      intro c
      have := heap_alloc_self w.drew (.cells c e)
      simp only [World.size_drew] at this
      simp only [World.shape?, this]
    have hgc : grownCap w u.size 0 e = (Question.appendCap u.size 0 e).cut (w.tape w.drawn (.appendCap u.size 0 e)) := rfl
    simp only [convert, Sem.run_bind, run_underlying h1, run_underlying h2, run_underlying he, Result.andThen_ok, Conv.stringToBytes, run_choose, Question.forced, Bool.false_eq_true, if_false, newRow, run_newObj, Sem.run_pure, World.drew_eq, World.alloc_eq, markStringish, run_shape, ← hgc]
    simp only [World.size_drew, hshape, run_freeze, Result.andThen_ok]
  have hcells : ∀ i (h : i < (u.data.toList.map byteAV).length), ∃ v, ((u.data.map (fun b => Value.int .u8 b.toNat) ++ Array.replicate (grownCap w u.size 0 e - u.size) (.int .u8 0)) : Array Value)[i]? = some v ∧ VRel r w v (u.data.toList.map byteAV)[i] := by
    intro i hil
    simp only [List.length_map, Array.length_toList] at hil
    refine ⟨.int .u8 (u.data[i]).toNat, ?_, ?_⟩
    · rw [Array.getElem?_append_left (by simpa using hil)]
      rw [Array.getElem?_map, Array.getElem?_eq_getElem hil]
      rfl
    · simp only [List.getElem_map, Array.getElem_toList, byteAV]
      exact .int
  have hone : ∀ y ∈ u.data.toList.map byteAV, y.one = true := by
    intro y hy
    obtain ⟨b, _, rfl⟩ := List.mem_map.1 hy
    rfl
  obtain ⟨hid, hed⟩ := hi.heap_eq (w' := w.drew) rfl rfl rfl rfl
  split at h
  · simp only [Option.some.injEq, Prod.mk.injEq] at h; obtain ⟨rfl, rfl⟩ := h
    have hfm : (u.data.toList.map byteAV).flatMap AV.cells = u.data.toList.map byteAV := flatMap_cells_one hone
    obtain ⟨r', k1, k2, k3⟩ := hid.newStable (cap := grownCap w u.size 0 e) (fl := false) (sz := 1) (xs := u.data.toList.map byteAV) rfl (fun x hx => by
      obtain ⟨b, _, rfl⟩ := List.mem_map.1 hx
      rfl) (by
        rw [hfm]
        intro i hil
        obtain ⟨v, q1, q2⟩ := hcells i hil
        exact ⟨v, q1, q2.mono (hed.grow hi)⟩) (by rw [List.length_map, ← hsz]; exact hge) (fun h => by cases h)
    refine ⟨_, _, r', hrun, ?_, k2, hed.trans k3⟩
    rw [List.length_map, ← hsz] at k1
    exact k1
  · generalize hal : allocH σ _ = al at h
    obtain ⟨id, ver, σ1⟩ := al
    simp only [Option.some.injEq, Prod.mk.injEq] at h; obtain ⟨rfl, rfl⟩ := h
    have hself := heap_alloc_self w.drew (.cells (u.data.map (fun b => Value.int .u8 b.toNat) ++ Array.replicate (grownCap w u.size 0 e - u.size) (.int .u8 0)) e
        (((u.data.map (fun b => Value.int .u8 b.toNat) ++ Array.replicate (grownCap w u.size 0 e - u.size) (.int .u8 0)) : Array Value).size, ((u.data.map (fun b => Value.int .u8 b.toNat) ++ Array.replicate (grownCap w u.size 0 e - u.size) (.int .u8 0)) : Array Value).size + 1))
    obtain ⟨k1, k2⟩ := hid.new hal (fun g => ⟨_, e, _, _, hself, fun i hil => by
      obtain ⟨v, q1, q2⟩ := hcells i hil
      exact ⟨v, by rw [Nat.zero_add]; exact q1, (q2.mono (hed.grow hi)).mono g⟩, hone, fun i a b c => by omega, fun T h => ⟨tyU8_eq h, rfl⟩⟩)
    refine ⟨_, _, _, hrun, ?_, k1, hed.trans k2⟩
    have hv := VRel.ms (r := r.bind id ver (w.heap.size, 0)) (w := _) (id := id) (ver := ver) (b := w.heap.size) (o := 0) (off := 0) (n := u.data.toList.length) (cap := grownCap w u.size 0 e) (sz := 1) (full := false)
      (by simp [Rl.bind]) ⟨_, e, _, hself, by
        simp only [Array.size_append, Array.size_map, Array.size_replicate, Nat.mul_one, Nat.zero_add]
        have : u.data.size = u.size := rfl
        omega⟩ (by rw [← hsz]; exact hge) (fun h => by cases h)
    rw [← hsz] at hv ⊢
    exact hv

def repA (n : Nat) (z : List AV) : List AV :=
  match z with
  | [x] => List.replicate n x
  | z => (List.replicate n z).flatten

theorem repA_length (n : Nat) (z : List AV) : (repA n z).length = n * z.length := by
  unfold repA
  split
  · simp
  · simp

theorem flatten_get (z : List AV) (hz : 0 < z.length) : ∀ (n i : Nat) (h : i < ((List.replicate n z).flatten).length), ((List.replicate n z).flatten)[i] = z[i % z.length]'(Nat.mod_lt _ hz)
  | 0, i, h => by simp at h
  | n + 1, i, h => by
    have he : (List.replicate (n + 1) z).flatten = z ++ (List.replicate n z).flatten := by rw [List.replicate_succ, List.flatten_cons]
    have h' : i < (z ++ (List.replicate n z).flatten).length := by rw [← he]; exact h
    have h1 : ((List.replicate (n + 1) z).flatten)[i] = (z ++ (List.replicate n z).flatten)[i]'h' := by simp only [he]
    rw [h1]
    by_cases hi : i < z.length
    · rw [List.getElem_append_left hi]
      congr 1
      exact (Nat.mod_eq_of_lt hi).symm
    · rw [List.getElem_append_right (by omega), flatten_get z hz n (i - z.length) (by rw [List.length_append] at h'; omega)]
      congr 1
      exact (Nat.mod_eq_sub_mod (by omega)).symm

theorem repA_get (n : Nat) (z : List AV) (i : Nat) (h : i < (repA n z).length) (hz : 0 < z.length) : (repA n z)[i] = z[i % z.length]'(Nat.mod_lt _ hz) := by
  unfold repA at *
  split at h
  · simp [Nat.mod_one]
  · exact flatten_get z hz n i h

def aMake (P : Program) (t : TypeId) (l c : AV) (σ : Heap) : Option (List Prop × AV × Heap) :=
  match elemInfo P t with
  | some (e, sz, by_) => match zeroA P e with
    | some z => bif allOne z && Nat.ble 1 sz then
        match l, c with
        | .int _ a, .int _ b => match allocH σ (.cells (repA a.toNat z) ⟨false, tyU8 P e⟩) with
          | (id, ver, σ') => some ([0 ≤ a, a ≤ b, by_ * b ≤ 281474976710656, b ≤ 9223372036854775807], .ms id ver 0 a.toNat sz false, σ')
        | _, _ => none
      else none
    | none => none
  | none => none

theorem wrap_i64_of {n : Int} (h0 : 0 ≤ n) (h1 : n ≤ 9223372036854775807) : IntKind.i64.wrap n = n := by
  unfold IntKind.wrap
  have hm : n % (2 ^ IntKind.i64.bits : Int) = n := Int.emod_eq_of_lt h0 (by show n < 18446744073709551616; omega)
  simp only [hm]
  rw [if_neg]
  intro h
  simp only [Bool.and_eq_true, decide_eq_true_eq] at h
  have h2 := h.2
  have h3 : (2 ^ (IntKind.i64.bits - 1) : Int) = 9223372036854775808 := by decide
  rw [h3] at h2
  omega

theorem aMake_run {cx : Cx} {r : Rl} {σ σ' : Heap} {w : World} {t : TypeId} {l c : Value} {l' c' v : AV} {C : List Prop} (hi : Inv cx r σ w) (h : aMake cx.P t l' c' σ = some (C, v, σ')) (hC : AllP C)
    (hl : VRel r w l l') (hc : VRel r w c c') : ∃ v' w' r', (Instr.makeSlice t l c).run cx.P w = .ok v' w' ∧ VRel r' w' v' v ∧ Inv cx r' σ' w' ∧ Ext r σ w r' σ' w' := by
  unfold aMake at h
  split at h
  case h_2 => cases h
  rename_i e sz by_ hel
  obtain ⟨inf, z, hu, hinfo, hz, hz1, hz2, hz3⟩ := elemInfo_some hel
  split at h
  case h_2 => cases h
  rename_i za hza
  obtain ⟨inf', z', hinfo', hz', rfl⟩ := zeroA_some hza
  rw [hinfo] at hinfo'
  simp only [Option.some.injEq] at hinfo'
  subst hinfo'
  rw [hz] at hz'
  simp only [Option.some.injEq] at hz'
  subst hz'
  cases hb : (allOne (z.cells.toList.map cst1) && Nat.ble 1 sz) with
  | false => rw [hb] at h; cases h
  | true =>
  rw [hb] at h
  simp only [cond_true] at h
  simp only [Bool.and_eq_true] at hb
  have hone := allOne_mem hb.1
  have hsz1 := Nat.le_of_ble_eq_true hb.2
  split at h
  case h_2 => cases h
  rename_i k1 a k2 b
  generalize hal : allocH σ _ = al at h
  obtain ⟨id, ver, σ1⟩ := al
  simp only [Option.some.injEq, Prod.mk.injEq] at h; obtain ⟨rfl, rfl, rfl⟩ := h
  obtain ⟨c1, c2, c3, c4, _⟩ := hC
  cases hl
  cases hc
  have hszo : szOf cx.P e = some sz := by simp [szOf, hinfo, hz2]
  have hwa := wrap_i64_of c1 (by omega)
  have hwb := wrap_i64_of (Int.le_trans c1 c2) c4
  have hn0 : ∃ c : Array Value, (Instr.makeSlice t (.int k1 a) (.int k2 b)).run cx.P w = .ok (.slice (some ⟨w.heap.size, 0, none⟩) a.toNat b.toNat) (w.alloc (.cells c e)) ∧ c.size = b.toNat * sz ∧
      ∀ i : Nat, i < b.toNat * sz → c[i]? = z.cells[i % sz]? := by
    have hzs : 0 < z.cells.size := by omega
    have hneg1 : ¬ b < 0 := by omega
    have hneg2 : ¬ a < 0 := by omega
    have hneg3 : ¬ b < a := by omega
    have hneg4 : ¬ (281474976710656 : Int) < inf.bytes * b := by rw [hz3]; omega
    by_cases h0 : b.toNat * sz = 0
    · refine ⟨#[], ?_, by rw [h0]; rfl, fun i hil => by omega⟩
      have hb0 : b.toNat = 0 := by
        rcases Nat.mul_eq_zero.1 h0 with h | h
        · exact h
        · omega
      simp only [Instr.makeSlice, Sem.run_bind, run_underlying hu, Result.andThen_ok, asInt, asIntOf, Sem.run_pure, typeInfo, run_program, hinfo, hwa, hwb, run_askRoom, run_sizeOf' hszo]
      simp [hneg1, hneg2, hneg3, hneg4, h0, hb0, newRow, run_askRoom, run_sizeOf' hszo]
      simp only [Array.range_zero', Array.map_empty]
    · refine ⟨(Array.range (b.toNat * sz)).map (z.cells[· % z.cells.size]!), ?_, by simp, fun i hil => ?_⟩
      · simp only [Instr.makeSlice, Sem.run_bind, run_underlying hu, Result.andThen_ok, asInt, asIntOf, Sem.run_pure, typeInfo, run_program, hinfo, hwa, hwb, run_askRoom, run_sizeOf' hszo]
        have h0' : ¬ (b.toNat = 0 ∨ sz = 0) := by
          intro h
          rcases h with h | h <;> simp [h] at h0
        simp only [not_or] at h0'
        simp [hneg1, hneg2, hneg3, hneg4, h0'.1, h0'.2, newRow, run_askRoom, zeroValue, typeInfo, hinfo, hz, run_sizeOf' hszo]
        intro h; exact absurd h h0
      · have hm : i % sz < z.cells.size := by rw [hz1]; exact Nat.mod_lt _ (by omega)
        rw [Array.getElem?_map, Array.getElem?_range, if_pos hil, Option.map_some, hz1, Array.getElem?_eq_getElem hm, getElem!_pos z.cells _ hm]
  obtain ⟨c, hrun, hcs, hcr⟩ := hn0
  have hzl : (z.cells.toList.map cst1).length = sz := by simp [hz1]
  have hrl := repA_length a.toNat (z.cells.toList.map cst1)
  have hle : a.toNat * sz ≤ b.toNat * sz := Nat.mul_le_mul_right _ (by omega)
  obtain ⟨r', q1, q2, q3, q4, q5⟩ := hi.newCells (c := c) (t := e) hal (fun i hil => by
    have hil' := hil
    rw [hrl, hzl] at hil'
    obtain ⟨u, m1, m2⟩ := cst1_cells r w z (i % sz) (by rw [hzl]; exact Nat.mod_lt _ (by omega))
    refine ⟨u, by rw [hcr i (by omega)]; exact m1, ?_⟩
    rw [repA_get _ _ _ hil (by omega)]
    simp only [hzl]
    exact m2) (fun y hy => by
      obtain ⟨i, hi1, rfl⟩ := List.getElem_of_mem hy
      rw [repA_get _ _ _ hi1 (by omega)]
      exact hone _ (List.getElem_mem _)) (fun T h => tyU8_eq h)
  refine ⟨_, _, r', hrun, ?_, q1, q2⟩
  have hv := VRel.ms (r := r') (w := w.alloc (.cells c e)) (id := id) (ver := ver) (b := w.heap.size) (o := 0) (off := 0) (n := a.toNat) (cap := b.toNat) (sz := sz) (full := false) q3
    ⟨c, e, _, heap_alloc_self w _, by omega⟩ (by omega) (fun h => by cases h)
  exact hv

end Go.Ab
