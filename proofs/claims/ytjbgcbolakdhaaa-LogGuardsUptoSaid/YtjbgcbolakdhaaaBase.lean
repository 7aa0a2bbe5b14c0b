/-
  The program at hand, as a context.
-/
import Derived.Test.YtjbgcbolakdhaaaProg
import Derived.KernelRfl
import Derived.Test.YtjbgcbolakdhaaaAbY
namespace Go.Proofs.Ytjbgcbolakdhaaa
open Go Go.Ab

noncomputable def cx : Cx := ⟨Try.prog, fun _ => none⟩

end Go.Proofs.Ytjbgcbolakdhaaa
