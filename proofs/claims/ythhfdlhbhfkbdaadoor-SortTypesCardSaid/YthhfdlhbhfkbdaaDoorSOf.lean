/- The sort of a type. No condition. -/
import Derived.Test.YthhfdlhbhfkbdaaDoorSa
set_option linter.unusedVariables false
set_option linter.unusedSimpArgs false
set_option linter.unusedSectionVars false
namespace Go.Proofs.YthhfdlhbhfkbdaaDoor
open Go Go.VM
set_option maxRecDepth 100000
set_option maxHeartbeats 8000000
variable {G : GT}
/-- The sort of a type: from its operation, its name, the number of its arguments. -/
def ofR (op : Int) (nm : List UInt8) (args : List (List D)) : List UInt8 × Bool :=
  if op = 1 then ([73, 110, 116], true) else if op = 2 then ([66, 111, 111, 108], true) else if op = 3 then ([67, 101, 108, 108], true) else if op = 4 ∧ args.length = 0 then (nm, true) else ([], false)
theorem ent_s_Of : Enters Tryd.prog 27 := Enters.mk Tryd.func27 rfl
theorem s_Of_cs (op : Int) (nm : List UInt8) (args names preds kids : List (List D)) (pop pn : Int) (pnm : List UInt8) : CS Tryd.prog G 27 [.agg [.int .i64 op, .str nm, .sl args, .sl names, .int .i64 pop, .str pnm, .int .i64 pn, .sl kids, .sl preds]] (.tup [.str (ofR op nm args).1, .bool (ofR op nm args).2]) none := by
  refine CS.of_VK Tryd.func27 rfl Tryd.ntmps27 rfl ?_
  by_cases h1 : op = 1
  · simp [h1, ofR]
  by_cases h2 : op = 2
  · simp [h2, ofR]
  by_cases h3 : op = 3
  · simp [h3, ofR]
  by_cases h4 : op = 4
  · by_cases h5 : args = []
    · simp [h4, h5, ofR]
    · simp [h4, h5, ofR]
  · simp [h1, h2, h3, h4, ofR]
theorem ent_r6_Of : Enters Tryd.prog 28 := Enters.mk Tryd.func28 rfl
theorem r6_Of_cs (op : Int) (nm : List UInt8) (args names preds kids : List (List D)) (pop pn : Int) (pnm : List UInt8) : CS Tryd.prog G 28 [.agg [.int .i64 op, .str nm, .sl args, .sl names, .int .i64 pop, .str pnm, .int .i64 pn, .sl kids, .sl preds]] (.tup [.str (ofR op nm args).1, .bool (ofR op nm args).2]) none := by
  refine CS.of_VK Tryd.func28 rfl Tryd.ntmps28 rfl ?_
  by_cases h1 : op = 1
  · simp [h1, ofR]
  by_cases h2 : op = 2
  · simp [h2, ofR]
  by_cases h3 : op = 3
  · simp [h3, ofR]
  by_cases h4 : op = 4
  · by_cases h5 : args = []
    · simp [h4, h5, ofR]
    · simp [h4, h5, ofR]
  · simp [h1, h2, h3, h4, ofR]
end Go.Proofs.YthhfdlhbhfkbdaaDoor
