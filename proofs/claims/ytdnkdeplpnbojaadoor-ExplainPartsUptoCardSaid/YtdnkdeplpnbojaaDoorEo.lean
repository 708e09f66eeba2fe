/- Whether a failure has short lists; failures. No condition. -/
import Derived.Test.YtdnkdeplpnbojaaDoorEn
set_option linter.unusedVariables false
set_option linter.unusedSimpArgs false
set_option linter.unusedSectionVars false
namespace Go.Proofs.YtdnkdeplpnbojaaDoor
open Go Go.VM
set_option maxRecDepth 100000
set_option maxHeartbeats 8000000
variable {G : GT}
/-- A failure. -/
structure FL where
  df : List UInt8
  err : Int
  gk : Int
  gd : List UInt8
  gn : List UInt8
  gp : List (List UInt8)
  pt : List (List UInt8 × Int)
  args : List Val
  real : Bool
def flC (f : FL) : List D := [.str f.df, .int .i64 f.err, .int .i64 f.gk, .str f.gd, .str f.gn, .sl (strs f.gp), .sl (coordsC f.pt), .sl (valsC f.args), .bool f.real]
def fewB (f : FL) : Bool := decide (f.gp.length ≤ 200) && (decide (f.pt.length ≤ 200) && decide (nodL 300 f.args 0 ≤ 300))
theorem ent_l53_few : VM.Enters Tryd.prog 42 := VM.Enters.mk Tryd.func42 rfl
theorem l53_few_cs (f : FL) (hx : szL (flC f) ≤ 1048576) : CS Tryd.prog G 42 [.agg (flC f)] (.d (.bool (fewB f))) none := by
  obtain ⟨df, err, gk, gd, gn, gp, pt, args, real⟩ := f
  simp only [flC, szL, szD] at hx
  unfold flC
  refine CS.of_VK Tryd.func42 rfl Tryd.ntmps42 rfl ?_
  by_cases h1 : gp.length ≤ 200
  · by_cases h2 : pt.length ≤ 200
    · simp [h1, h2]
      refine callK.mk ent_l53_nodes (l53_nodes_cs 300 1048576 args (by omega) (by omega)) ?_
      simp [fewB, h1, h2]
    · simp [fewB, h1, h2]
  · simp [fewB, h1]
end Go.Proofs.YtdnkdeplpnbojaaDoor
