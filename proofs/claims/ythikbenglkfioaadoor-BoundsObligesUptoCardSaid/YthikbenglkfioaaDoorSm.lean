/- Environments: equality, and one more variable, in the reference. No condition. -/
import Derived.Test.YthikbenglkfioaaDoorZA
set_option linter.unusedVariables false
set_option linter.unusedSimpArgs false
set_option linter.unusedSectionVars false
namespace Go.Proofs.YthikbenglkfioaaDoor
open Go Go.VM
set_option maxRecDepth 100000
set_option maxHeartbeats 4000000
variable {G : GT}
theorem EnvL.ext_iff (a b : EnvL) : a = b ↔ a.vars = b.vars ∧ a.syms = b.syms ∧ a.holes = b.holes := by
  cases a; cases b; simp
instance : DecidableEq EnvL := fun a b => decidable_of_iff _ (EnvL.ext_iff a b).symm
/-- No list is longer than a million. -/
structure Fit (v : EnvL) : Prop where
  vars : v.vars.length ≤ 2000000
  syms : v.syms.length ≤ 2000000
  holes : v.holes.length ≤ 2000000
  args : ∀ y ∈ v.syms, y.args.length ≤ 2000000
  params : ∀ h ∈ v.holes, h.params.length ≤ 2000000
/-- The variables, the last one new. -/
def addR (l : List (List UInt8 × List UInt8)) (x : List UInt8 × List UInt8) : List (List UInt8 × List UInt8) := (l.filter fun y => !decide (y.1 = x.1)) ++ [x]
theorem varsC_app (l : List (List UInt8 × List UInt8)) (x : List UInt8 × List UInt8) : varsC (l ++ [x]) = varsC l ++ [[.str x.1, .str x.2]] := by simp [varsC, varC]
attribute [simp] varsC_app
end Go.Proofs.YthikbenglkfioaaDoor
