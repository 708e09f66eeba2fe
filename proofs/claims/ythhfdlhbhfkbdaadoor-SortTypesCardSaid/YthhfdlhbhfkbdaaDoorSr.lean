/- The statements of sort: what they answer. No condition. -/
import Derived.Test.YthhfdlhbhfkbdaaDoorSq
namespace Go.Proofs.YthhfdlhbhfkbdaaDoor
open Go Go.VM
set_option maxRecDepth 100000
set_option maxHeartbeats 4000000
set_option pp.maxSteps 2000
theorem l6_SortChecks_cs (s : List UInt8) (y : SymL) : CS Tryd.prog G0 3 [.str s, .agg (symC y)] (.d (.bool true)) none := by
  refine CS.of_VK Tryd.func3 rfl Tryd.ntmps3 rfl ?_
  simp [symC]
  by_cases h1 : 300 < s.length
  · simp [h1]
    refine callK.mk ent_l6_awake (l6_awake_cs ) ?_
    simp
  simp [h1]
  refine callK.mk ent_l6_shortSym (l6_shortSym_cs _) ?_
  cases h2 : shortY y
  · simp
    refine callK.mk ent_l6_awake (l6_awake_cs ) ?_
    simp
  simp
  refine ⟨lexOk.mk (by kernel_rfl), ?_⟩
  refine callK.mk ent_s_Check (s_Check_cs G0_kw _) ?_
  simp
  refine callK.mk ent_r6_Check (r6_Check_cs _) ?_
  simp
  refine callK.mk ent_s_Sym (s_Sym_cs G0_kw _) ?_
  simp
  refine callK.mk ent_r6_Sym (r6_Sym_cs _) ?_
  simp
  refine callK.mk ent_l6_awake (l6_awake_cs ) ?_
  simp
theorem l6_SortEnvs_cs (v : EnvL) : CS Tryd.prog G0 4 [.agg (envC v)] (.d (.bool true)) none := by
  refine CS.of_VK Tryd.func4 rfl Tryd.ntmps4 rfl ?_
  simp [envC]
  refine ⟨lexOk.mk (by kernel_rfl), ?_⟩
  refine callK.mk ent_l6_light (l6_light_cs _) ?_
  cases h : lightB v
  · simp
    refine callK.mk ent_l6_awake (l6_awake_cs ) ?_
    simp
  simp
  refine callK.mk ent_s_Env (s_Env_cs G0_kw _) ?_
  simp
  refine callK.mk ent_r6_Env (r6_Env_cs _) ?_
  simp
  refine callK.mk ent_l6_awake (l6_awake_cs ) ?_
  simp
theorem l6_SortTypes_cs (op : Int) (nm : List UInt8) (args names preds kids : List (List D)) (pop pn : Int) (pnm : List UInt8) : CS Tryd.prog G0 6 [.agg [.int .i64 op, .str nm, .sl args, .sl names, .int .i64 pop, .str pnm, .int .i64 pn, .sl kids, .sl preds]] (.d (.bool true)) none := by
  refine CS.of_VK Tryd.func6 rfl Tryd.ntmps6 rfl ?_
  simp
  by_cases h1 : 300 < nm.length
  · simp [h1]
    refine callK.mk ent_l6_awake (l6_awake_cs ) ?_
    simp
  simp [h1]
  refine callK.mk ent_s_Of (s_Of_cs op nm args names preds kids pop pn pnm) ?_
  simp
  refine callK.mk ent_r6_Of (r6_Of_cs op nm args names preds kids pop pn pnm) ?_
  simp
  refine callK.mk ent_l6_awake (l6_awake_cs ) ?_
  simp
end Go.Proofs.YthhfdlhbhfkbdaaDoor
