/- Short symbols. No condition. -/
import Derived.Test.YthhfdlhbhfkbdaaDoorSg
set_option linter.unusedVariables false
set_option linter.unusedSimpArgs false
set_option linter.unusedSectionVars false
namespace Go.Proofs.YthhfdlhbhfkbdaaDoor
open Go Go.VM
set_option maxRecDepth 100000
set_option maxHeartbeats 8000000
variable {G : GT}
def shortS (s : List UInt8) : Bool := decide (s.length ≤ 300)
def shortY (y : SymL) : Bool := decide (y.name.length ≤ 300) && decide (y.args.length ≤ 8) && decide (y.res.length ≤ 300) && y.args.all shortS
theorem ent_l6_shortSym : Enters Tryd.prog 10 := Enters.mk Tryd.func10 rfl
theorem l6_shortSym_cs (y : SymL) : CS Tryd.prog G 10 [.agg (symC y)] (.d (.bool (shortY y))) none := by
  obtain ⟨nm, args, res⟩ := y
  refine CS.of_VK Tryd.func10 rfl Tryd.ntmps10 rfl ?_
  by_cases h1 : 300 < nm.length
  · have : ¬ nm.length ≤ 300 := by omega
    simp [symC, h1, shortY, this]
  by_cases h2 : 8 < args.length
  · have : ¬ args.length ≤ 8 := by omega
    simp [symC, h1, h2, shortY, this]
  by_cases h3 : 300 < res.length
  · have : ¬ res.length ≤ 300 := by omega
    simp [symC, h1, h2, h3, shortY, this]
  simp [symC, h1, h2, h3]
  have hE : shortY ⟨nm, args, res⟩ = args.all shortS := by
    have a1 : nm.length ≤ 300 := by omega
    have a2 : args.length ≤ 8 := by omega
    have a3 : res.length ≤ 300 := by omega
    simp [shortY, a1, a2, a3]
  refine SW.loopF (ι := { i : Nat // i ≤ args.length ∧ args.all shortS = (args.drop i).all shortS }) (fun i => [(3, .d (.int .i64 i.1))]) (fun _ => [(1, .cells [.str nm, .sl (strs args), .str res])]) (fun _ => []) (fun i => args.length - i.1) ⟨0, by simp⟩ (by simp) ?_
  rintro ⟨i, hi, he⟩
  by_cases hlt : i < args.length
  · have hw := wrap64s (show i < 9223372036854775807 by omega)
    by_cases h4 : 300 < args[i].length
    · simp [hlt, h4]
      rw [hE, all_stop he hlt (by simp [shortS]; omega)]
    · simp [hlt, h4]
      exact Again.mk ⟨i + 1, hlt, all_step he hlt (by simp [shortS]; omega)⟩ (by simp [hw]) (by simp; omega)
  · simp [hlt]
    rw [hE, all_end he hlt]
end Go.Proofs.YthhfdlhbhfkbdaaDoor
