/-
  Lists of texts in plain arguments; an action among the arguments.
-/
import Derived.Test.YtjpmngjoohoddaaDoorActA
import Derived.Test.YtjpmngjoohoddaaDoorAbZb
set_option linter.unusedVariables false
set_option linter.unusedSimpArgs false
set_option maxRecDepth 20000
namespace Go.Proofs.YtjpmngjoohoddaaDoor
open Go Go.Ab

theorem open_l {H : Type} {d : DataW H} {a : AV} (h : RdD Tryd.prog 24 d a) : ∃ l : List (List UInt8), a = .sl true false 1 (texts l) := by
  obtain ⟨ds, xs, rfl, hl, hm, hall, _⟩ := h.inv_sl Tryd.underlying24
  obtain ⟨ys, rfl, hy, hg⟩ := RdD.each AV.str (fun _ _ => True) hl hall (fun d x h => by
    obtain ⟨s, _, rfl, _⟩ := h.inv_str Tryd.underlying9
    exact ⟨s, rfl, trivial⟩)
  have hc : Tryd.prog.cellsOf 9 = 1 := by kernel_rfl
  exact ⟨ys, by rw [hc]; rfl⟩

theorem open_A {H : Type} {d : DataW H} {a : AV} (h : RdD Tryd.prog 26 d a) : ∃ x : ActV, a = actAV true x := by
  obtain ⟨ds, xs, rfl, rfl, hall⟩ := h.inv_st Tryd.underlying26
  obtain ⟨d0, ds, x0, xs, rfl, rfl, h0, hall⟩ := hall.cons
  obtain ⟨d1, ds, x1, xs, rfl, rfl, h1, hall⟩ := hall.cons
  obtain ⟨d2, ds, x2, xs, rfl, rfl, h2, hall⟩ := hall.cons
  obtain ⟨d3, ds, x3, xs, rfl, rfl, h3, hall⟩ := hall.cons
  obtain ⟨rfl, rfl⟩ := hall.nil
  obtain ⟨l0, rfl⟩ := open_l h0
  obtain ⟨s1, rfl, rfl, _⟩ := h1.inv_str Tryd.underlying9
  obtain ⟨l2, rfl⟩ := open_l h2
  obtain ⟨n3, rfl, rfl, _⟩ := h3.inv_int Tryd.underlying3
  exact ⟨⟨l0, s1, l2, n3⟩, rfl⟩

end Go.Proofs.YtjpmngjoohoddaaDoor
