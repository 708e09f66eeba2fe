/- The sorts of predicates: the walks of the reference's Of and Bool. No condition. -/
import Derived.Test.YthikbenglkfioaaDoorPo
import Derived.Test.YthikbenglkfioaaDoorPr
import Derived.Test.YthikbenglkfioaaDoorZA
set_option linter.unusedVariables false
set_option linter.unusedSimpArgs false
set_option linter.unusedSectionVars false
namespace Go.Proofs.YthikbenglkfioaaDoor
open Go Go.VM
set_option maxRecDepth 100000
set_option maxHeartbeats 8000000
variable {G : GT}
theorem bad_take {v : EnvL} {l : List Pr} {i : Nat} {ks : List Nm} (hi : i < l.length) (h : ofMs v (l.take i) = .ok ks) (he : ¬ (ofM v l[i]).2 = 0) : ofMs v l = .error (ofM v l[i]).2 := ofMs_bad hi h he
end Go.Proofs.YthikbenglkfioaaDoor
