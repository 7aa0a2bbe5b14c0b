/-
  Laws over package-level tables of words.
-/
import Derived.Test.YtjpmngjoohoddabDoorAbX
import Derived.Lib.LaidTab
import Derived.Deep.DeepHandedRow
set_option linter.unusedVariables false
set_option linter.unusedSimpArgs false
namespace Go.Ab
open Go Go.ChangeShapes Go.WideShapes Go.ChangeAt Go.RowKit

theorem Calc.callsG {cx : Cx} {f : FuncId} {as : List AV} {res : AV} {vs : Array Value} {w : World} (h : Calc cx f as res)
    (hG : ∀ g cs, cx.G g = some cs → g < w.heap.size ∧ ∀ i (h : i < cs.length), ∃ v, w.cell? ⟨g, i, none⟩ = some v ∧ ∀ r' w', VRel r' w' v cs[i]) (hv : VRels (Rl.old w) w vs as) :
    Calls cx.P f vs w fun e w' => ∃ v r', e = .returned v ∧ VRel r' w' v res ∧ Below w.heap.size w w' := by
  refine (h.call.2 _ w vs (Inv.old w hG) hv).mono fun e w' ⟨o, σ', r', ⟨ho, hσ⟩, hor, hi, hx⟩ => ?_
  subst ho
  cases e with
  | returned u => exact ⟨u, r', rfl, hor, ⟨hx.os, hx.tape, hx.output, hx.hs, fun k hk => hx.same k hk (by rintro ⟨id, ver, x, o, h1, _⟩; simp at h1)⟩⟩
  | panicked chain => exact hor.elim
  | outgrown => exact hor.elim

theorem laidMet_tail {P : Program} {x : String × DataW Unit} {rest : List (String × DataW Unit)} {W : World} (h : laidMet P (x :: rest) W) : laidMet P rest W := by
  obtain ⟨ps, ⟨g, t, cs, fuel, p, q, h1, h2, h3, h4, h5, h6⟩, hn, hc⟩ := h
  subst h6
  exact ⟨q, h5, (List.nodup_append.1 hn).2.1, fun b off hm => hc b off (List.mem_append_right _ hm)⟩

/-- A table of words, as the context has it. -/
theorem tab_cells {P : Program} {W : World} {name : String} {g : Nat} {k : IntKind} {l : List Nat} (hg : P.globalNamed name = some g) (h : Lib.TabIs P W name k (l.map fun n : Nat => (n : Int))) (h0 : 0 < l.length) :
    g < W.heap.size ∧ ∀ i (h : i < (l.map fun n => AV.int k (n : Nat)).length), ∃ v, W.cell? ⟨g, i, none⟩ = some v ∧ ∀ r' w', VRel r' w' v (l.map fun n => AV.int k (n : Nat))[i] := by
  refine ⟨?_, fun i hi => ?_⟩
  · have := h.cell hg 0 (by simpa using h0)
    rcases Nat.lt_or_ge g W.heap.size with hl | hl
    · exact hl
    · simp [World.cell?, Array.getElem?_eq_none hl] at this
  · have hi' : i < l.length := by simpa using hi
    refine ⟨_, h.cell hg i (by simpa using hi'), fun r' w' => ?_⟩
    simp only [List.getElem_map]
    have : (l.map fun n : Nat => (n : Int)).getD i 0 = (l[i] : Int) := by simp [List.getD, hi']
    rw [this]; exact .int

end Go.Ab
