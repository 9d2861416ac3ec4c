/-
  ManagerSilent: 'works()' answers true.
-/
import Derived.Test.YtpdgklkcjegkfaaGreatRows
import Derived.Test.YtpdgklkcjegkfaaGreatSyB
import Derived.KernelRfl
namespace Go.Proofs.YtpdgklkcjegkfaaGreat
open Go Go.Sx

theorem mixed : Tryz.prog.follows .mixedOrders = true := by kernel_rfl

def sE : AS := { heap := .e, next := .h, orc := [], cons := True }

end Go.Proofs.YtpdgklkcjegkfaaGreat
