/-
  New variables, boxes, built values, literal slices, bytes of a text; and all operations in one function.
-/
import Derived.Test.YtjpmngjoohoddaaAbI
set_option linter.unusedVariables false
set_option linter.unusedSimpArgs false
namespace Go.Ab
open Go

/-- A part that is laid into cells. -/
theorem fold_set (v : Array Value) (off : Nat) : ∀ (l : List (Value × Nat)) (cs : Array Value), (∀ p ∈ l, off + p.2 < cs.size) → (l.map (·.2)).Nodup → ∀ k : Nat,
    (l.foldl (fun cs (p : Value × Nat) => cs.setIfInBounds (off + p.2) p.1) cs)[k]? = match l.find? (fun p => off + p.2 == k) with | some p => some p.1 | none => cs[k]?
  | [], cs, _, _, k => by simp
  | p :: r, cs, h, hd, k => by
    simp only [List.map_cons, List.nodup_cons] at hd
    rw [List.foldl_cons, fold_set v off r _ (fun q hq => by simpa using h q (by simp [hq])) hd.2 k, List.find?_cons]
    by_cases hk : off + p.2 = k
    · have hnone : r.find? (fun p => off + p.2 == k) = none := by
        rw [List.find?_eq_none]
        intro q hq hqk
        have : off + q.2 = k := by simpa using hqk
        exact hd.1 (List.mem_map.2 ⟨q, hq, by omega⟩)
      have hpk : (off + p.2 == k) = true := by simp [hk]
      rw [hnone, hpk]
      have := h p (by simp)
      simp only [Array.getElem?_setIfInBounds]
      rw [if_pos hk, if_pos (by omega)]
    · have : (off + p.2 == k) = false := by simp [hk]
      rw [this]
      cases r.find? (fun p => off + p.2 == k) with
      | some q => rfl
      | none => simp only [Array.getElem?_setIfInBounds]; rw [if_neg hk]

theorem fold_zip (v : Array Value) (off : Nat) (cs : Array Value) (h : off + v.size ≤ cs.size) (k : Nat) :
    (v.zipIdx.foldl (fun cs (c, j) => cs.setIfInBounds (off + j) c) cs)[k]? = if off ≤ k ∧ k < off + v.size then v[k - off]? else cs[k]? := by
  rw [← Array.foldl_toList]
  have h1 : ∀ p ∈ v.zipIdx.toList, off + p.2 < cs.size := by
    intro p hp
    rw [Array.toList_zipIdx] at hp
    obtain ⟨x, i⟩ := p
    have := List.mem_zipIdx hp
    simp only [Array.length_toList] at this
    simp only; omega
  have h2 : (v.zipIdx.toList.map (·.2)).Nodup := by
    rw [Array.toList_zipIdx]
    rw [List.zipIdx_map_snd]
    exact List.nodup_range'
  have h3 := fold_set v off v.zipIdx.toList cs h1 h2 k
  refine Eq.trans ?_ (h3.trans ?_)
  · rfl
  · by_cases hk : off ≤ k ∧ k < off + v.size
    · rw [if_pos hk]
      have h4 : v.zipIdx.toList.find? (fun p => off + p.2 == k) = some (v[k - off]'(by omega), k - off) := by
        rw [List.find?_eq_some_iff_getElem]
        refine ⟨by simp; omega, k - off, by simp; omega, by simp, fun j hj => ?_⟩
        simp; omega
      rw [h4]
      simp
    · rw [if_neg hk]
      have h4 : v.zipIdx.toList.find? (fun p => off + p.2 == k) = none := by
        rw [List.find?_eq_none]
        intro p hp
        rw [Array.toList_zipIdx] at hp
        obtain ⟨x, i⟩ := p
        have := List.mem_zipIdx hp
        simp only [Array.length_toList] at this
        simp only [beq_iff_eq]
        omega
      rw [h4]

theorem fold_size (off : Nat) : ∀ (l : List (Value × Nat)) (cs : Array Value), (l.foldl (fun cs (p : Value × Nat) => cs.setIfInBounds (off + p.2) p.1) cs).size = cs.size
  | [], cs => rfl
  | p :: r, cs => by rw [List.foldl_cons, fold_size off r]; simp

def fillA (place : Nat → Option (Nat × Nat)) (cells : List AV) : List (Nat × AV) → Option (List AV)
  | [] => some cells
  | (i, v) :: rest => match place i with
    | none => none
    | some (off, size) => bif Nat.beq v.cells.length size && Nat.ble (off + size) cells.length && allOne v.cells then fillA place (setRange cells off v.cells) rest else none

theorem fill_rel {r : Rl} {w : World} {place : Nat → Option (Nat × Nat)} : ∀ (ps : List (Nat × AV)) (qs : List (Nat × Value)) (cells : List AV) (cs : Array Value) (out : List AV),
    fillA place cells ps = some out → ps.length = qs.length → (∀ i (h : i < ps.length) (h' : i < qs.length), (ps[i]).1 = (qs[i]).1 ∧ VRel r w (qs[i]).2 (ps[i]).2) → VRel r w (.agg cs) (.agg cells) →
    ∃ cs', Instr.fill place cs qs = some cs' ∧ VRel r w (.agg cs') (.agg out)
  | [], [], cells, cs, out, h, _, _, hr => by
    simp only [fillA, Option.some.injEq] at h
    subst h
    exact ⟨cs, rfl, hr⟩
  | [], _ :: _, _, _, _, _, hl, _, _ => by simp at hl
  | _ :: _, [], _, _, _, _, hl, _, _ => by simp at hl
  | (i, x) :: ps, (j, v) :: qs, cells, cs, out, h, hl, hp, hr => by
    obtain ⟨h1, h2⟩ := hp 0 (by simp) (by simp)
    simp only [List.getElem_cons_zero] at h1 h2
    subst h1
    simp only [fillA] at h
    split at h
    case h_1 => cases h
    rename_i off size hpl
    cases hb : (Nat.beq x.cells.length size && Nat.ble (off + size) cells.length && allOne x.cells) with
    | false => rw [hb] at h; cases h
    | true =>
      rw [hb] at h
      simp only [cond_true] at h
      simp only [Bool.and_eq_true] at hb
      have e1 := Nat.eq_of_beq_eq_true hb.1.1
      have e2 := Nat.le_of_ble_eq_true hb.1.2
      have e3 := allOne_mem hb.2
      have hcs : cs.size = cells.length := by cases hr; assumption
      by_cases hsz0 : x.blank = true
      · rw [AV.blank_of e3] at hsz0
        cases hsz0
      · have hsz0 : x.blank = false := by simpa using hsz0
        obtain ⟨k1, k2⟩ := h2.cells hsz0
        have hr' : VRel r w (.agg (v.cells.zipIdx.foldl (fun cs (c, j) => cs.setIfInBounds (off + j) c) cs)) (.agg (setRange cells off x.cells)) := by
          refine .agg ?_ (fun k hk => ?_)
          · rw [setRange_length _ _ _ (by omega), ← Array.foldl_toList]
            exact (fold_size off v.cells.zipIdx.toList cs).trans hcs
          · rw [setRange_length _ _ _ (by omega)] at hk
            have hg := fold_zip v.cells off cs (by omega) k
            have hg2 := setRange_get cells off x.cells (by omega) k
            have hg3 : (setRange cells off x.cells)[k]? = some ((setRange cells off x.cells)[k]'(by rw [setRange_length _ _ _ (by omega)]; exact hk)) := List.getElem?_eq_getElem _
            by_cases hin : off ≤ k ∧ k < off + size
            · rw [if_pos (by omega)] at hg hg2
              obtain ⟨u, m1, m2⟩ := k2 (k - off) (by omega)
              rw [m1] at hg
              rw [hg2, List.getElem?_eq_getElem (by omega)] at hg3
              simp only [Option.some.injEq] at hg3
              rw [← hg3]
              simp only [Array.getD_eq_getD_getElem?, hg, Option.getD_some]
              exact m2
            · rw [if_neg (by omega)] at hg hg2
              obtain ⟨u, m1, m2⟩ := agg_getElem? hr k hk
              rw [m1] at hg
              rw [hg2, List.getElem?_eq_getElem hk] at hg3
              simp only [Option.some.injEq] at hg3
              rw [← hg3]
              simp only [Array.getD_eq_getD_getElem?, hg, Option.getD_some]
              exact m2
        obtain ⟨cs', m1, m2⟩ := fill_rel ps qs _ _ out h (by simpa using hl) (fun i hi hi' => by
          have := hp (i + 1) (by simp; omega) (by simp; omega)
          simpa using this) hr'
        refine ⟨cs', ?_, m2⟩
        rw [Instr.fill]
        simp only [hpl]
        rw [if_neg (by simp; omega)]
        exact m1

def placesOf (P : Program) (fs : List Field) : Option (List (Nat × Nat)) :=
  match fs with
  | [] => some []
  | f :: r => match szOf P f.type, placesOf P r with
    | some n, some l => some ((f.offset, n) :: l)
    | _, _ => none

theorem placesOf_run {P : Program} (w : World) : ∀ (fs : List Field) (l : List (Nat × Nat)), placesOf P fs = some l → ((fs.mapM fun f => do pure (f.offset, ← sizeOf f.type) : Sem (List (Nat × Nat)))).run P w = .ok l w
  | [], l, h => by simp only [placesOf, Option.some.injEq] at h; subst h; rfl
  | f :: r, l, h => by
    simp only [placesOf] at h
    split at h
    · rename_i n l' h1 h2
      simp only [Option.some.injEq] at h
      subst h
      have ih := placesOf_run w r l' h2
      simp only [List.mapM_cons, Sem.run_bind, run_sizeOf' h1, Result.andThen_ok, Sem.run_pure, ih]
    · cases h

def aBuild (P : Program) (t : TypeId) (parts : List (Nat × AV)) : Option AV :=
  match zeroA P t with
  | some z => match P.underlying t with
    | some (.struct fs) => match placesOf P fs.toList with
      | some l => match fillA (fun (i : Nat) => l[i]?) z parts with
        | some cs => some (.agg cs)
        | none => none
      | none => none
    | some (.array _ e) => match szOf P e with
      | some n => match fillA (fun i => some (i * n, n)) z parts with
        | some cs => some (.agg cs)
        | none => none
      | none => none
    | _ => none
  | none => none

theorem aBuild_run {P : Program} {r : Rl} {w : World} {t : TypeId} {ps : List (Nat × AV)} {qs : Array (Nat × Value)} {v : AV} (h : aBuild P t ps = some v) (hl : ps.length = qs.size)
    (hp : ∀ i (h : i < ps.length) (h' : i < qs.toList.length), (ps[i]).1 = (qs.toList[i]).1 ∧ VRel r w (qs.toList[i]).2 (ps[i]).2) : ∃ v', (Instr.build t qs).run P w = .ok v' w ∧ VRel r w v' v := by
  unfold aBuild at h
  split at h
  case h_2 => cases h
  rename_i z hz
  obtain ⟨i, zv, hi, hzv, rfl⟩ := zeroA_some hz
  have hzr : VRel r w (.agg zv.cells) (.agg (zv.cells.toList.map cst1)) := .agg (by simp) (fun k hk => by
    obtain ⟨u, h1, h2⟩ := cst1_cells r w zv k hk
    simp only [Array.getD_eq_getD_getElem?, h1, Option.getD_some]
    exact h2)
  split at h
  · rename_i fs hu
    split at h
    case h_2 => cases h
    rename_i l hl'
    split at h
    case h_2 => cases h
    rename_i cs hf
    simp only [Option.some.injEq] at h
    subst h
    obtain ⟨cs', h1, h2⟩ := fill_rel ps qs.toList _ _ _ hf (by simpa using hl) hp hzr
    have hm : (fs.mapM fun f => do pure (f.offset, ← sizeOf f.type) : Sem (Array (Nat × Nat))).run P w = .ok l.toArray w := by
      have h3 := placesOf_run w fs.toList l hl'
      rw [← Array.toList_mapM] at h3
      simp only [Sem.run_map] at h3
      revert h3
      generalize (fs.mapM fun f => do pure (f.offset, ← sizeOf f.type) : Sem (Array (Nat × Nat))).run P w = q
      intro h3
      cases q with
      | ok a w' =>
        simp only [Result.andThen_ok, Result.ok.injEq] at h3
        obtain ⟨rfl, rfl⟩ := h3
        simp
      | halt => simp at h3
    refine ⟨.agg cs', ?_, h2⟩
    have hfun : (fun (x : Nat) => l.toArray[x]?) = (fun (i : Nat) => l[i]?) := by funext x; simp
    simp only [Instr.build, Sem.run_bind, run_zeroValue hi hzv, Result.andThen_ok, run_underlying hu, hm, hfun, h1, Sem.run_pure]
  · rename_i n0 e hu
    split at h
    case h_2 => cases h
    rename_i n hn
    split at h
    case h_2 => cases h
    rename_i cs hf
    simp only [Option.some.injEq] at h
    subst h
    obtain ⟨cs', h1, h2⟩ := fill_rel ps qs.toList _ _ _ hf (by simpa using hl) hp hzr
    refine ⟨.agg cs', ?_, h2⟩
    simp only [Instr.build, Sem.run_bind, run_zeroValue hi hzv, Result.andThen_ok, run_underlying hu, run_sizeOf' hn, h1, Sem.run_pure]
  · cases h

end Go.Ab
