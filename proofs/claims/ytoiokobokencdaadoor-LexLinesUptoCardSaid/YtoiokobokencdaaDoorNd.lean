/- Numerals: what the functions answer. No condition. -/
import Derived.Test.YtoiokobokencdaaDoorZ8
import Derived.Test.YtoiokobokencdaaDoorShelf
import Derived.Lib.ItoaLen
set_option linter.unusedVariables false
set_option linter.unusedSimpArgs false
set_option linter.unusedSectionVars false
namespace Go.Proofs.YtoiokobokencdaaDoor
open Go Go.VM
set_option maxRecDepth 100000
set_option maxHeartbeats 4000000
variable {G : GT}
def powCells : List D := Lib.pow10Tab.map (.int .u64)
/-- The digits of a number that is not 0; of 0 none. -/
def dig0 (u : Nat) : List UInt8 := if u = 0 then [] else Lib.decDigits u
theorem dig0_step {u : Nat} (h : ¬ u = 0) : dig0 u = dig0 (u / 10) ++ [UInt8.ofNat (48 + u % 10)] := by
  unfold dig0
  rw [if_neg h]
  by_cases hu : u < 10
  · have : u / 10 = 0 := by omega
    rw [if_pos this, dd_small hu]
    have : u % 10 = u := Nat.mod_eq_of_lt hu
    rw [this]; rfl
  · rw [if_neg (by omega), dd_step hu]
end Go.Proofs.YtoiokobokencdaaDoor
