/-
  The program at hand, as a context; with the tables of sums, where it has them.
-/
import Derived.Test.YtjpmngjoohoddaaProg
import Derived.KernelRfl
import Derived.Test.YtjpmngjoohoddaaAbY
namespace Go.Proofs.Ytjpmngjoohoddaa
open Go Go.Ab

noncomputable def cx : Cx := ⟨Try.prog, fun _ => none⟩

end Go.Proofs.Ytjpmngjoohoddaa
