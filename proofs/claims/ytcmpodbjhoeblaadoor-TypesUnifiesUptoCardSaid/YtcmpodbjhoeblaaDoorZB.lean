/- Joined texts. The walks of the checks of types. The walks of the checks of types: all the types in a type. No condition. -/
import Derived.Test.YtcmpodbjhoeblaaDoorZA
section
set_option linter.unusedVariables false
set_option linter.unusedSimpArgs false
set_option linter.unusedSectionVars false
namespace Go.Proofs.YtcmpodbjhoeblaaDoor
open Go Go.VM
set_option maxRecDepth 100000
set_option maxHeartbeats 8000000
variable {G : GT}
attribute [local simp] lit_lt_succ succ_lt_lit
end Go.Proofs.YtcmpodbjhoeblaaDoor
end

section
set_option linter.unusedVariables false
set_option linter.unusedSimpArgs false
set_option linter.unusedSectionVars false
namespace Go.Proofs.YtcmpodbjhoeblaaDoor
open Go Go.VM
set_option maxRecDepth 100000
set_option maxHeartbeats 8000000
variable {G : GT}
end Go.Proofs.YtcmpodbjhoeblaaDoor
end
