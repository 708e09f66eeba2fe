/- The sorts of predicates: the walks of the reference. No condition. -/
import Derived.Test.YthikbenglkfioaaDoorPo
import Derived.Test.YthikbenglkfioaaDoorZA
set_option linter.unusedVariables false
set_option linter.unusedSimpArgs false
set_option linter.unusedSectionVars false
namespace Go.Proofs.YthikbenglkfioaaDoor
open Go Go.VM
set_option maxRecDepth 100000
set_option maxHeartbeats 8000000
variable {G : GT}
/-! ### The check of the reference -/
def kidsB (op len : Int) : Bool := !(decide (len < leastK op) || decide (mostK op < len))
def calB (op : Int) (nm : Nm) : Bool := !(namB op && !coreB nm && !freeN op nm)
end Go.Proofs.YthikbenglkfioaaDoor
