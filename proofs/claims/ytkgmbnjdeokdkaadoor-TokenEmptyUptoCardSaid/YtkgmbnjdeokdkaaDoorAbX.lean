/-
  From what a function does to what a law's row asks of it.
-/
import Derived.Test.YtkgmbnjdeokdkaaDoorAbThree
import Derived.ProofKit
import Derived.JoinedCond
import Derived.SliceStrings
import Derived.WideKeyArgs
import Derived.Carry
set_option linter.unusedVariables false
set_option linter.unusedSimpArgs false
namespace Go.Ab
open Go Go.ChangeShapes Go.WideShapes Go.ChangeAt Go.RowKit

/-- At a law's call, all that lies there already is stable. -/
def Rl.old (w : World) : Rl := { S := fun b => b < w.heap.size, I := fun b => b < w.heap.size, ρ := fun _ _ => none }

theorem Inv.old {cx : Cx} (w : World) (hG : ∀ g cs, cx.G g = some cs → g < w.heap.size ∧ ∀ i (h : i < cs.length), ∃ v, w.cell? ⟨g, i, none⟩ = some v ∧ VRel (Rl.old w) w v cs[i] ∧ Free true cs[i])
    (hU : ∀ g, cx.U g = true → g < w.heap.size ∧ ∃ m, w.cell? ⟨g, 0, none⟩ = some (.int .i64 m)) : Inv cx (Rl.old w) [] w := by
  refine ⟨fun id ver x h => (by simp at h), fun id ver b o h => (by cases h), fun id id' ver ver' x x' b o o' h => (by simp at h), ?_, fun b h => h, fun b h => h, ⟨hG, hU⟩⟩
  rintro b ⟨id, ver, x, o, h, _⟩; simp at h

theorem Calc.calls {cx : Cx} {f : FuncId} {as : List AV} {res : AV} {vs : Array Value} {w : World} (h : Calc cx f as res) (hG : ∀ g, cx.G g = none) (hv : VRels (Rl.old w) w vs as) (hU : ∀ g, cx.U g = false := by exact fun _ => rfl) :
    Calls cx.P f vs w fun e w' => ∃ v r', e = .returned v ∧ VRel r' w' v res ∧ Below w.heap.size w w' := by
  refine (h.call.2 _ w vs (Inv.old w (fun g cs hg => by rw [hG] at hg; cases hg) (fun g hg => by rw [hU] at hg; cases hg)) hv).mono fun e w' ⟨o, σ', r', ⟨ho, hσ⟩, hor, hi, hx⟩ => ?_
  subst ho
  cases e with
  | returned u => exact ⟨u, r', rfl, hor, ⟨hx.os, hx.tape, hx.output, hx.hs, fun k hk => hx.same k hk (by rintro ⟨id, ver, x, o, h1, _⟩; simp at h1)⟩⟩
  | panicked chain => exact hor.elim
  | outgrown => exact hor.elim

theorem Below.kept {w w' : World} (h : Below w.heap.size w w') (may : MemPlace → Prop) : w.keptBut w' may := by
  refine ⟨h.os, h.output, fun i hi => ?_⟩
  rw [h.block i hi]
  cases hx : w.heap[i]? with
  | none => simp
  | some o => cases o <;> simp

/-- The row's end, where all that was there is as it was. -/
theorem post_pure {H : Type} {enc : TypeId × Value → H} {P : Program} {f : Func} {s : ChangeSpec} {apart fresh handsOn again : Bool} {W W' : World} {args : Array Value} {v : Value} {ds gs : List (DataW H)} {before pa pv : List MemPlace}
    (hW : DataW.Whole enc P f.params.toList s.vars apart W args.toList ds gs before)
    (hres : ∀ (b : Nat) (sp : Nat → Bool) (hd : Bool), DataW.TrodAll enc P W' b sp hd f.resultTypes.toList (v.resultList f.resultTypes.size) (s.fn H (ds ++ gs)).results [])
    (hargs : ∀ sp : Nat → Bool, (∀ p ∈ before, sp p.block = true) → DataW.TrodAll enc P W' 0 sp true f.params.toList args.toList (s.fn H (ds ++ gs)).args pa)
    (hvars : ∀ sp : Nat → Bool, (∀ p ∈ before, sp p.block = true) → DataW.TrodVars enc P W' sp s.vars (s.fn H (ds ++ gs)).vars pv)
    (hps : before = pa ++ pv) (hb : Below W.heap.size W W')
    (hok : ∀ (j : Nat) (t : TypeId) (r : Value), f.resultTypes[j]? = some t → (v.resultList f.resultTypes.size)[j]? = some r → Value.okWide P W' .any 0 t r) :
    s.post enc P f apart fresh handsOn again W args v W' := by
  have hlt := hW.lt
  refine ⟨ds, gs, before, [], pa, pv, hW, hres _ _ _, hargs _ (fun p hp => by simpa using hlt p hp), hvars _ (fun p hp => by simpa using hlt p hp), World.keptBut_mono (fun p hp => ⟨hp, ?_⟩) (Below.kept hb (· ∈ before)), fun _ => ?_⟩
  · rw [hps, List.mem_append] at hp
    exact Or.inr hp
  · obtain ⟨_, _, _, _, _, hz, hn⟩ := hW
    refine ⟨hok, _, _, ([] ++ pa) ++ pv, ⟨[] ++ pa, pv, trodAll_append (hargs _ (fun _ _ => rfl)) (hres _ _ _), hvars _ (fun _ _ => rfl), rfl, ?_, ?_⟩, ?_⟩
    · intro b off hp
      have hp' : MemPlace.cell b off ∈ before := by rw [hps]; simpa using hp
      have hb' : b < W.heap.size := hlt _ hp'
      have := hz b off hp'
      unfold World.frozen? at this ⊢
      rw [hb.block b hb']
      exact this
    · intro ha
      have := hn ha
      rw [hps] at this
      simpa using this
    · intro p hp _
      rw [hps]
      simpa using hp

/-- What was read as data is read so behind the call. -/
theorem trodAll_stays {H : Type} {enc : TypeId × Value → H} {P : Program} {W W' : World} {sp : Nat → Bool} (hl : laidOutB P = true) (hb : Below W.heap.size W W') : ∀ {ts : List TypeId} {vs : List Value} {ds : List (DataW H)} {ps : List MemPlace},
    (∀ t ∈ ts, P.readableRec t = true ∧ t < P.types.size) → DataW.TrodAll enc P W 0 (fun _ => true) true ts vs ds ps → (∀ x ∈ ps, x.block < W.heap.size) → (∀ p ∈ ps, sp p.block = true) → DataW.TrodAll enc P W' 0 sp true ts vs ds ps
  | [], [], [], _, _, h, _, _ => h
  | _ :: _, _ :: _, _ :: _, _, hT, ⟨p, q, h1, h2, e⟩, hlt, hs =>
    ⟨p, q, WideElems.Trod_stays hl (hT _ (List.mem_cons_self ..)).1 (hT _ (List.mem_cons_self ..)).2 h1 (fun x hx => hb.same (hlt x (by rw [e]; exact List.mem_append_left _ hx))) (fun x hx => hs x (by rw [e]; exact List.mem_append_left _ hx)),
      trodAll_stays hl hb (fun t ht => hT t (List.mem_cons_of_mem _ ht)) h2 (fun x hx => hlt x (by rw [e]; exact List.mem_append_right _ hx)) (fun x hx => hs x (by rw [e]; exact List.mem_append_right _ hx)), e⟩

/-- A slice of texts among the arguments. -/
theorem read_texts {H : Type} {enc : TypeId × Value → H} {P : Program} {W : World} {t e : TypeId} {v : Value} {d : DataW H} {ps : List MemPlace} (ht : P.underlying t = some (.slice e)) (he : P.underlying e = some .string) (hc : P.cellsOf e = 1)
    (hv : ∃ a len cap, v = .slice a len cap) (h : DataW.Trod enc P W 0 (fun _ => true) true t v d ps) :
    ∃ l : List (List UInt8), VRel (Rl.old W) W v (.sl true false 1 (l.map AV.str)) ∧ l.length ≤ maxLen ∧ ((d = .nil ∧ l = []) ∨ ∃ (ss : List ByteArray) (rest : List (DataW H)), d = .slice (strs ss) rest ∧ l = ss.map (·.data.toList)) := by
  obtain ⟨a0, len0, cap0, rfl⟩ := hv
  obtain ⟨fuel, hf⟩ := h
  rcases open_strings ht he hc hf with ⟨hcs, hx⟩ | ⟨a, len, cap, ss, hcs, _, hl, hm, hz, hx, hcell, hsz⟩
  · simp only [Value.cells] at hcs
    cases hx
    simp at hcs
    obtain ⟨rfl, rfl, rfl⟩ := hcs
    exact ⟨[], .sl0 (fun h => by cases h), Nat.zero_le _, .inl ⟨rfl, rfl⟩⟩
  · simp only [Value.cells] at hcs
    cases hx
    simp at hcs
    obtain ⟨rfl, rfl, rfl⟩ := hcs
    simp only [if_true] at hz
    refine ⟨(ss.take len0).map (·.data.toList), ?_, by simp; omega, .inr ⟨ss.take len0, _, rfl, rfl⟩⟩
    rcases Nat.eq_zero_or_pos len0 with h0 | h0
    · subst h0
      exact .sl0 (fun h => by cases h)
    · obtain ⟨b, o, sp⟩ := a
      have hsp : sp = none := by
        cases sp with
        | none => rfl
        | some s =>
          have := hcell 0 (by omega)
          simp [Addr.add, World.cell?] at this
          split at this <;> cases this
      subst hsp
      have hb : b < W.heap.size := by
        have := hcell 0 (by omega)
        rw [Addr.add_lit] at this
        rcases Nat.lt_or_ge b W.heap.size with h | h
        · exact h
        · simp [World.cell?, Array.getElem?_eq_none h] at this
      refine .sl (by simp; omega) (by omega) (fun h => by cases h) hb (fun _ => hb) (fun x hx => ?_) (fun e _ => .string (ss.getD e ByteArray.empty)) (fun e he j hj => ?_) (fun e he j hj => ?_)
      · obtain ⟨y, _, rfl⟩ := List.mem_map.1 hx; rfl
      · obtain rfl : j = 0 := by omega
        have := hcell e (by simp at he; omega)
        rw [Addr.add_lit] at this
        simpa using this
      · have hee : e < ss.length := by simp at he; omega
        have hx : (((ss.take len0).map (·.data.toList)).map AV.str)[e]'he = .str (ss[e].data.toList) := by simp
        generalize (((ss.take len0).map (·.data.toList)).map AV.str)[e]'he = z at hx hj
        subst hx
        obtain rfl : j = 0 := by simpa [AV.cells] using hj
        rw [show ss.getD e ByteArray.empty = ss[e] by simp [List.getD, hee]]
        exact .str rfl

end Go.Ab
