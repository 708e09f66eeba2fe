/- Joined texts. Numbers: bounds, sums, differences, products. No condition. -/
import Derived.Test.YthikbenglkfioaaDoorTy
import Derived.Test.YthikbenglkfioaaDoorZ4
import Derived.Test.YthikbenglkfioaaDoorZ6
section
set_option linter.unusedVariables false
set_option linter.unusedSimpArgs false
set_option linter.unusedSectionVars false
namespace Go.Proofs.YthikbenglkfioaaDoor
open Go Go.VM
set_option maxRecDepth 100000
set_option maxHeartbeats 4000000
variable {G : GT}
/-- A number that an int holds. -/
def I64 (n : Int) : Prop := -9223372036854775808 ≤ n ∧ n ≤ 9223372036854775807
def inB (n : Int) : Bool := decide (-1000000000000 ≤ n) && decide (n ≤ 1000000000000)
theorem inB_iff {n : Int} : inB n = true ↔ -1000000000000 ≤ n ∧ n ≤ 1000000000000 := by simp [inB]
theorem ent_m_In : VM.Enters Tryd.prog 139 := VM.Enters.mk Tryd.func139 rfl
theorem m_In_cs (n : Int) : CS Tryd.prog G 139 [.int .i64 n] (.d (.bool (inB n))) none := by
  refine CS.of_VK Tryd.func139 rfl Tryd.ntmps139 rfl ?_
  by_cases h : -1000000000000 ≤ n <;> simp [inB, h]
/-- A number, if it is right and in bounds. -/
def chk (n : Int) (ok : Bool) : Int × Bool := if ok && inB n then (n, true) else (0, false)
def addZ (a b : Int) : Int × Bool := chk (a + b) (inB a && inB b)
def subZ (a b : Int) : Int × Bool := chk (a - b) (inB a && inB b)
def mulZ (a b : Int) : Int × Bool := chk (a * b) (inB a && inB b)
/-- The absolute value; the least int counts as the greatest number. -/
def absZ (n : Int) : Int := if n = -9223372036854775808 then 1000000000000 else n.natAbs
theorem absZ_in {n : Int} (h : inB n = true) : absZ n = n.natAbs := by
  have := inB_iff.1 h
  unfold absZ
  rw [if_neg (by omega)]
theorem mul_fit {a b : Int} (ha : inB a = true) (hb : inB b = true) (h0 : ¬ a = 0) (h1 : ¬ b = 0) :
    (1000000000000 : Int).tdiv (a.natAbs : Int) < (b.natAbs : Int) ↔ inB (a * b) = false := by
  have e1 : (1000000000000 : Int).tdiv (a.natAbs : Int) = ((1000000000000 / a.natAbs : Nat) : Int) := rfl
  rw [e1, Int.ofNat_lt, Nat.div_lt_iff_lt_mul (by omega), ← Nat.mul_comm, ← Int.natAbs_mul]
  have : inB (a * b) = false ↔ ¬ inB (a * b) = true := by simp
  rw [this, inB_iff]
  omega
end Go.Proofs.YthikbenglkfioaaDoor
end
