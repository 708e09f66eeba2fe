/- The statement SortEnvs. No condition. -/
import Derived.Test.YthhfdlhbhfkbdaaDoorSn
import Derived.Test.YthhfdlhbhfkbdaaDoorSq
import Derived.Test.YthhfdlhbhfkbdaaDoorSy
set_option linter.unusedVariables false
set_option linter.unusedSimpArgs false
set_option linter.unusedSectionVars false
namespace Go.Proofs.YthhfdlhbhfkbdaaDoor
open Go Go.VM
set_option maxRecDepth 100000
set_option maxHeartbeats 8000000
theorem l6_SortEnvs_cs (v : EnvL) : CS Tryd.prog G0 4 [.agg (envC v)] (.d (.bool true)) none := by
  refine CS.of_VK Tryd.func4 rfl Tryd.ntmps4 rfl ?_
  simp [envC]
  refine ⟨lexOk.mk (by kernel_rfl), ?_⟩
  refine callK.mk ent_l6_light (l6_light_cs _) ?_
  cases h : lightB v
  · simp
    refine callK.mk ent_l6_awake (l6_awake_cs ) ?_
    simp
  simp
  refine callK.mk ent_s_Env (s_Env_cs G0_kw _) ?_
  simp
  refine callK.mk ent_r6_Env (r6_Env_cs _) ?_
  simp
  refine callK.mk ent_l6_awake (l6_awake_cs ) ?_
  simp
theorem sortEnvs_all (xs : List D) (h : FitsAll Tryd.prog [36] xs) : CS Tryd.prog G0 4 xs (.d (.bool true)) none := by
  match xs, h with
  | [a], ⟨h1, _⟩ =>
    obtain ⟨v, rfl⟩ := fitV_env h1
    exact l6_SortEnvs_cs v
end Go.Proofs.YthhfdlhbhfkbdaaDoor
