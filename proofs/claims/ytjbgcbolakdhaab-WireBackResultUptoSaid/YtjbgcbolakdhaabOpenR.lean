/-
  A result among the arguments.
-/
import Derived.Test.YtjbgcbolakdhaabWireR
import Derived.Test.YtjbgcbolakdhaabAbZ
set_option linter.unusedVariables false
set_option linter.unusedSimpArgs false
set_option maxRecDepth 20000
namespace Go.Proofs.Ytjbgcbolakdhaab
open Go Go.Ab

theorem open_R {H : Type} {d : DataW H} {a : AV} (h : RdD Try.prog 38 d a) : ∃ r : ResV, a = resAV r ∧ d = .agg [.lit (.int .i64 r.code), .lit (.string r.out), .lit (.int .i64 r.spent)] ∧ r.out.length ≤ maxLen := by
  obtain ⟨ds, xs, rfl, rfl, hall⟩ := h.inv_st Try.underlying38
  obtain ⟨d0, ds, x0, xs, rfl, rfl, h0, hall⟩ := hall.cons
  obtain ⟨d1, ds, x1, xs, rfl, rfl, h1, hall⟩ := hall.cons
  obtain ⟨d2, ds, x2, xs, rfl, rfl, h2, hall⟩ := hall.cons
  obtain ⟨rfl, rfl⟩ := hall.nil
  obtain ⟨n0, rfl, rfl, _⟩ := h0.inv_int Try.underlying3
  obtain ⟨s1, rfl, rfl, hs⟩ := h1.inv_str Try.underlying9
  obtain ⟨n2, rfl, rfl, _⟩ := h2.inv_int Try.underlying3
  exact ⟨⟨n0, s1, n2⟩, rfl, rfl, hs⟩

end Go.Proofs.Ytjbgcbolakdhaab
