/-
  The program at hand, as a context; with the tables of sums, where it has them.
-/
import Derived.Test.YtkgmbnjdeokdkaaDoorProg
import Derived.KernelRfl
import Derived.Test.YtkgmbnjdeokdkaaDoorAbThree
namespace Go.Proofs.YtkgmbnjdeokdkaaDoor
open Go Go.Ab

def openU (g : Nat) : Bool := Nat.beq g 2
def words14 : List (List UInt8) := [[97, 110, 100], [111, 114], [110, 111, 116], [105, 110], [105, 102], [101, 108, 115, 101], [102, 111, 114], [100, 101, 102], [114, 101, 116, 117, 114, 110], [112, 97, 115, 115], [84, 114, 117, 101], [70, 97, 108, 115, 101], [78, 111, 110, 101], [108, 111, 97, 100]]
def signs18 : List (List UInt8) := [[61, 61], [33, 61], [60, 61], [47, 47], [61], [60], [43], [45], [42], [37], [40], [41], [91], [93], [123], [125], [44], [58]]
def tabs0 (g : Nat) : Option (List AV) := bif Nat.beq g 0 then some [.sl true false 1 (words14.map .str)] else bif Nat.beq g 1 then some [.sl true false 1 (signs18.map .str)] else none
def tabs (g : Nat) : Option (List AV) := tabs0 g
noncomputable def cx : Cx := { P := Tryd.prog, G := tabs, U := openU }

end Go.Proofs.YtkgmbnjdeokdkaaDoor
