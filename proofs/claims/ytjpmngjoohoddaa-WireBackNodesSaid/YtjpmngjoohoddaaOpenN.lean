/-
  Nodes of a tree among the arguments.
-/
import Derived.Test.YtjpmngjoohoddaaNodeC
import Derived.Test.YtjpmngjoohoddaaAbZ
set_option linter.unusedVariables false
set_option linter.unusedSimpArgs false
set_option maxRecDepth 20000
namespace Go.Proofs.Ytjpmngjoohoddaa
open Go Go.Ab

theorem cells_N : Try.prog.cellsOf 93 = 3 := by kernel_rfl

theorem open_node {H : Type} {d : DataW H} {a : AV} (h : RdD Try.prog 93 d a) : ∃ n : NodeV, a = nodeAV n ∧ (n.name.length ≤ maxLen ∧ n.dig.length ≤ maxLen) := by
  obtain ⟨ds, xs, rfl, rfl, hall⟩ := h.inv_st Try.underlying93
  obtain ⟨d0, ds, x0, xs, rfl, rfl, h0, hall⟩ := hall.cons
  obtain ⟨d1, ds, x1, xs, rfl, rfl, h1, hall⟩ := hall.cons
  obtain ⟨d2, ds, x2, xs, rfl, rfl, h2, hall⟩ := hall.cons
  obtain ⟨rfl, rfl⟩ := hall.nil
  obtain ⟨s0, rfl, rfl, hs0⟩ := h0.inv_str Try.underlying9
  obtain ⟨n1, rfl, rfl, _⟩ := h1.inv_int Try.underlying3
  obtain ⟨s2, rfl, rfl, hs2⟩ := h2.inv_str Try.underlying9
  exact ⟨⟨s0, n1, s2⟩, rfl, hs0, hs2⟩

theorem open_N {H : Type} {d : DataW H} {a : AV} (h : RdD Try.prog 54 d a) : ∃ l : List NodeV, a = .sl true false 3 (nodes l) ∧ NodesOk l := by
  obtain ⟨ds, xs, rfl, hl, hm, hall, _⟩ := h.inv_sl Try.underlying54
  obtain ⟨ys, rfl, hy, hg⟩ := RdD.each nodeAV (fun n _ => n.name.length ≤ maxLen ∧ n.dig.length ≤ maxLen) hl hall (fun d x h => open_node h)
  have hM : maxLen ≤ 9223372036854775807 := by decide
  have hall2 : ∀ n ∈ ys, n.name.length ≤ maxLen ∧ n.dig.length ≤ maxLen := fun n hn => by
    obtain ⟨i, hi, rfl⟩ := List.getElem_of_mem hn
    exact hg i (by omega) hi
  refine ⟨ys, by rw [cells_N]; rfl, ?_, fun n hn => ?_, fun n hn => ?_⟩
  · have : ys.length ≤ maxLen := by simpa using hm
    omega
  · have := (hall2 n hn).1; omega
  · have := (hall2 n hn).2; omega

end Go.Proofs.Ytjpmngjoohoddaa
