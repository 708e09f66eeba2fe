/- Tokens: what runes are; the longest beginning whose runes satisfy a function; the walks. No condition. -/
import Derived.Test.YtoiokobokencdaaDoorZ7
import Derived.Test.YtoiokobokencdaaDoorTy
import Derived.Test.YtoiokobokencdaaDoorZ9
set_option linter.unusedVariables false
set_option linter.unusedSimpArgs false
set_option linter.unusedSectionVars false
namespace Go.Proofs.YtoiokobokencdaaDoor
open Go Go.VM
set_option maxRecDepth 100000
set_option maxHeartbeats 8000000
variable {G : GT}
def smI (c : Int) : Bool := decide (97 ≤ c) && decide (c ≤ 122)
def caI (c : Int) : Bool := decide (65 ≤ c) && decide (c ≤ 90)
def dgI (c : Int) : Bool := decide (48 ≤ c) && decide (c ≤ 57)
def inI (c : Int) : Bool := smI c || caI c || dgI c || decide (c = 95)
theorem ent_lex_small : VM.Enters Tryd.prog 28 := VM.Enters.mk Tryd.func28 rfl
theorem ent_lex_capital : VM.Enters Tryd.prog 31 := VM.Enters.mk Tryd.func31 rfl
theorem ent_lex_digit : VM.Enters Tryd.prog 32 := VM.Enters.mk Tryd.func32 rfl
theorem ent_lex_inner : VM.Enters Tryd.prog 30 := VM.Enters.mk Tryd.func30 rfl
theorem lex_small_cs (c : Int) : CS Tryd.prog G 28 [.int .i32 c] (.d (.bool (smI c))) none := by
  refine CS.of_VK Tryd.func28 rfl Tryd.ntmps28 rfl ?_
  by_cases h : 97 ≤ c <;> simp [h, smI]
theorem lex_capital_cs (c : Int) : CS Tryd.prog G 31 [.int .i32 c] (.d (.bool (caI c))) none := by
  refine CS.of_VK Tryd.func31 rfl Tryd.ntmps31 rfl ?_
  by_cases h : 65 ≤ c <;> simp [h, caI]
theorem lex_digit_cs (c : Int) : CS Tryd.prog G 32 [.int .i32 c] (.d (.bool (dgI c))) none := by
  refine CS.of_VK Tryd.func32 rfl Tryd.ntmps32 rfl ?_
  by_cases h : 48 ≤ c <;> simp [h, dgI]
theorem lex_inner_cs (c : Int) : CS Tryd.prog G 30 [.int .i32 c] (.d (.bool (inI c))) none := by
  refine CS.of_VK Tryd.func30 rfl Tryd.ntmps30 rfl ?_
  simp
  refine callK.mk ent_lex_small (lex_small_cs c) ?_
  by_cases h1 : smI c = true
  · simp [h1, inI]
  · simp [h1]
    refine callK.mk ent_lex_capital (lex_capital_cs c) ?_
    by_cases h2 : caI c = true
    · simp [h2, inI]
    · simp [h2]
      refine callK.mk ent_lex_digit (lex_digit_cs c) ?_
      by_cases h3 : dgI c = true
      · simp [h3, inI]
      · simp [h1, h2, h3, inI]
end Go.Proofs.YtoiokobokencdaaDoor
