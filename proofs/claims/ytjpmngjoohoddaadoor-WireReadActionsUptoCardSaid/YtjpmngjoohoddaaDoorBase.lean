/-
  The program at hand, as a context; with the tables of sums, where it has them.
-/
import Derived.Test.YtjpmngjoohoddaaDoorProg
import Derived.KernelRfl
import Derived.Test.YtjpmngjoohoddaaDoorAbThree
namespace Go.Proofs.YtjpmngjoohoddaaDoor
open Go Go.Ab

noncomputable def cx : Cx := ⟨Tryd.prog, fun _ => none⟩

end Go.Proofs.YtjpmngjoohoddaaDoor
