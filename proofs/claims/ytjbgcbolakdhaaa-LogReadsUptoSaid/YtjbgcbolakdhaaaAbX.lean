/-
  From what a function does to what a law's row asks of it.
-/
import Derived.Test.YtjbgcbolakdhaaaAbW
import Derived.ProofKit
import Derived.JoinedCond
set_option linter.unusedVariables false
set_option linter.unusedSimpArgs false
namespace Go.Ab
open Go Go.ChangeShapes Go.WideShapes Go.ChangeAt Go.RowKit

/-- At a law's call, all that lies there already is stable. -/
def Rl.old (w : World) : Rl := { S := fun b => b < w.heap.size, I := fun b => b < w.heap.size, ρ := fun _ _ => none }

theorem Inv.old {cx : Cx} (w : World) (hG : ∀ g cs, cx.G g = some cs → g < w.heap.size ∧ ∀ i (h : i < cs.length), ∃ v, w.cell? ⟨g, i, none⟩ = some v ∧ ∀ r' w', VRel r' w' v cs[i]) : Inv cx (Rl.old w) [] w := by
  refine ⟨fun id ver x h => (by simp at h), fun id ver b o h => (by cases h), fun id id' ver ver' x x' b o o' h => (by simp at h), ?_, fun b h => h, fun b h => h, fun g cs hg => hG g cs hg⟩
  rintro b ⟨id, ver, x, o, h, _⟩; simp at h

theorem Calc.calls {cx : Cx} {f : FuncId} {as : List AV} {res : AV} {vs : Array Value} {w : World} (h : Calc cx f as res) (hG : ∀ g, cx.G g = none) (hv : VRels (Rl.old w) w vs as) :
    Calls cx.P f vs w fun e w' => ∃ v r', e = .returned v ∧ VRel r' w' v res ∧ Below w.heap.size w w' := by
  refine (h.call.2 _ w vs (Inv.old w (fun g cs hg => by rw [hG] at hg; cases hg)) hv).mono fun e w' ⟨o, σ', r', ⟨ho, hσ⟩, hor, hi, hx⟩ => ?_
  subst ho
  cases e with
  | returned u => exact ⟨u, r', rfl, hor, ⟨hx.os, hx.tape, hx.output, hx.hs, fun k hk => hx.same k hk (by rintro ⟨id, ver, x, o, h1, _⟩; simp at h1)⟩⟩
  | panicked chain => exact hor.elim
  | outgrown => exact hor.elim

theorem Below.kept {w w' : World} (h : Below w.heap.size w w') (may : MemPlace → Prop) : w.keptBut w' may := by
  refine ⟨h.os, h.output, fun i hi => ?_⟩
  rw [h.block i hi]
  cases hx : w.heap[i]? with
  | none => simp
  | some o => cases o <;> simp

/-- The row's end, where all that was there is as it was. -/
theorem post_pure {H : Type} {enc : TypeId × Value → H} {P : Program} {f : Func} {s : ChangeSpec} {apart fresh handsOn again : Bool} {W W' : World} {args : Array Value} {v : Value} {ds gs : List (DataW H)} {before pa pv : List MemPlace}
    (hW : DataW.Whole enc P f.params.toList s.vars apart W args.toList ds gs before)
    (hres : ∀ (b : Nat) (sp : Nat → Bool) (hd : Bool), DataW.TrodAll enc P W' b sp hd f.resultTypes.toList (v.resultList f.resultTypes.size) (s.fn H (ds ++ gs)).results [])
    (hargs : ∀ sp : Nat → Bool, (∀ p ∈ before, sp p.block = true) → DataW.TrodAll enc P W' 0 sp true f.params.toList args.toList (s.fn H (ds ++ gs)).args pa)
    (hvars : ∀ sp : Nat → Bool, (∀ p ∈ before, sp p.block = true) → DataW.TrodVars enc P W' sp s.vars (s.fn H (ds ++ gs)).vars pv)
    (hps : before = pa ++ pv) (hb : Below W.heap.size W W')
    (hok : ∀ (j : Nat) (t : TypeId) (r : Value), f.resultTypes[j]? = some t → (v.resultList f.resultTypes.size)[j]? = some r → Value.okWide P W' .any 0 t r) :
    s.post enc P f apart fresh handsOn again W args v W' := by
  have hlt := hW.lt
  refine ⟨ds, gs, before, [], pa, pv, hW, hres _ _ _, hargs _ (fun p hp => by simpa using hlt p hp), hvars _ (fun p hp => by simpa using hlt p hp), World.keptBut_mono (fun p hp => ⟨hp, ?_⟩) (Below.kept hb (· ∈ before)), fun _ => ?_⟩
  · rw [hps, List.mem_append] at hp
    exact Or.inr hp
  · obtain ⟨_, _, _, _, _, hz, hn⟩ := hW
    refine ⟨hok, _, _, ([] ++ pa) ++ pv, ⟨[] ++ pa, pv, trodAll_append (hargs _ (fun _ _ => rfl)) (hres _ _ _), hvars _ (fun _ _ => rfl), rfl, ?_, ?_⟩, ?_⟩
    · intro b off hp
      have hp' : MemPlace.cell b off ∈ before := by rw [hps]; simpa using hp
      have hb' : b < W.heap.size := hlt _ hp'
      have := hz b off hp'
      unfold World.frozen? at this ⊢
      rw [hb.block b hb']
      exact this
    · intro ha
      have := hn ha
      rw [hps] at this
      simpa using this
    · intro p hp _
      rw [hps]
      simpa using hp

end Go.Ab
