/-
  The program at hand, as a context.
-/
import Derived.Test.YtjbgcbolakdhaabProg
import Derived.KernelRfl
import Derived.Test.YtjbgcbolakdhaabAbY
namespace Go.Proofs.Ytjbgcbolakdhaab
open Go Go.Ab

noncomputable def cx : Cx := ⟨Try.prog, fun _ => none⟩

end Go.Proofs.Ytjbgcbolakdhaab
