/- The statement's own examples, run. No condition. -/
import Derived.Test.YthhfdlhbhfkbdaaDoorSb
import Derived.Test.YthhfdlhbhfkbdaaDoorVmI
set_option linter.unusedVariables false
set_option linter.unusedSimpArgs false
set_option linter.unusedSectionVars false
namespace Go.Proofs.YthhfdlhbhfkbdaaDoor
open Go Go.VM
set_option maxRecDepth 100000
set_option maxHeartbeats 8000000
/-- The package-level variables that the row lists. -/
def G0 : GT := fun g => if g = 0 then some kwCells else none
theorem G0_kw : G0 0 = some kwCells := rfl
theorem ent_l6_awake : Enters Tryd.prog 11 := Enters.mk Tryd.func11 rfl
theorem l6_awake_cs : CS Tryd.prog G0 11 [] (.d (.bool true)) none := CS.run 60 (by kernel_rfl)
end Go.Proofs.YthhfdlhbhfkbdaaDoor
