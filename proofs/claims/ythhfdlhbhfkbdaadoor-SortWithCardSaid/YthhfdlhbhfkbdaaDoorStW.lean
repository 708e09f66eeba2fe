/- The statement SortWith. No condition. -/
import Derived.Test.YthhfdlhbhfkbdaaDoorSs
import Derived.Test.YthhfdlhbhfkbdaaDoorSp
set_option linter.unusedVariables false
set_option linter.unusedSimpArgs false
set_option linter.unusedSectionVars false
namespace Go.Proofs.YthhfdlhbhfkbdaaDoor
open Go Go.VM
set_option maxRecDepth 100000
set_option maxHeartbeats 8000000
theorem l6_SortWith_cs (v : EnvL) (x : List UInt8 × List UInt8) : CS Tryd.prog G0 7 [.agg (envC v), .agg (varC x)] (.d (.bool true)) none := by
  refine CS.of_VK Tryd.func7 rfl Tryd.ntmps7 rfl ?_
  simp [envC, varC]
  refine callK.mk ent_l6_light (l6_light_cs v) ?_
  cases h : lightB v
  · simp
    refine callK.mk ent_l6_awake (l6_awake_cs ) ?_
    simp
  have hf := light_fit h
  simp
  refine callK.mk ent_l6_short (l6_short_cs [x] (by simp)) ?_
  cases h1 : shortV [x]
  · simp
    refine callK.mk ent_l6_awake (l6_awake_cs ) ?_
    simp
  simp
  refine ⟨lexOk.mk (by kernel_rfl), ?_⟩
  refine callK.mk ent_s_With (s_With_cs v x hf) ?_
  simp
  refine callK.mk ent_r6_With (r6_With_cs v x hf.vars) ?_
  simp
  refine callK.mk ent_r6_Same (r6_Same_cs _ _ (addR_fit h x)) ?_
  simp
  refine callK.mk ent_l6_awake (l6_awake_cs ) ?_
  simp
theorem sortWith_all (xs : List D) (h : FitsAll Tryd.prog [36, 62] xs) : CS Tryd.prog G0 7 xs (.d (.bool true)) none := by
  match xs, h with
  | [a, b], ⟨h1, h2, _⟩ =>
    obtain ⟨v, rfl⟩ := fitV_env h1
    obtain ⟨s, rfl⟩ := fitV_var h2
    exact l6_SortWith_cs v s
end Go.Proofs.YthhfdlhbhfkbdaaDoor
