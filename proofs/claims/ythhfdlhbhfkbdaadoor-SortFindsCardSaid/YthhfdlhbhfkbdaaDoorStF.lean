/- The statement SortFinds. No condition. -/
import Derived.Test.YthhfdlhbhfkbdaaDoorSs
set_option linter.unusedVariables false
set_option linter.unusedSimpArgs false
set_option linter.unusedSectionVars false
namespace Go.Proofs.YthhfdlhbhfkbdaaDoor
open Go Go.VM
set_option maxRecDepth 100000
set_option maxHeartbeats 8000000
theorem l6_SortFinds_cs (v : EnvL) (n : List UInt8) : CS Tryd.prog G0 5 [.agg (envC v), .str n] (.d (.bool true)) none := by
  refine CS.of_VK Tryd.func5 rfl Tryd.ntmps5 rfl ?_
  simp [envC]
  refine callK.mk ent_l6_light (l6_light_cs v) ?_
  cases h : lightB v
  · simp
    refine callK.mk ent_l6_awake (l6_awake_cs ) ?_
    simp
  have hf := light_fit h
  simp
  by_cases h1 : 300 < n.length
  · simp [h1]
    refine callK.mk ent_l6_awake (l6_awake_cs ) ?_
    simp
  simp [h1]
  refine callK.mk ent_s_Var (s_Var_cs v n hf.vars) ?_
  simp
  refine callK.mk ent_r6_Var (r6_Var_cs v n hf.vars) ?_
  simp
  refine callK.mk ent_s_Find (s_Find_cs v n hf.syms hf.args) ?_
  simp [symC]
  refine callK.mk ent_r6_Find (r6_Find_cs v n hf.syms) ?_
  simp [symC]
  refine callK.mk ent_s_Hole (s_Hole_cs v n hf.holes hf.params) ?_
  simp [holeC]
  refine callK.mk ent_r6_Hole (r6_Hole_cs v n hf.holes) ?_
  simp [holeC]
  have hy : (symR n v.syms).1.args.length ≤ 1000000 := by
    unfold symR
    split
    · simp
    split
    · simp
    unfold symGo
    split
    · rename_i hx; exact hf.args _ (List.mem_of_find?_eq_some hx)
    · simp
  have hh : (holeR n v.holes).1.params.length ≤ 1000000 := by
    unfold holeR
    split
    · rename_i hx; exact hf.params _ (List.mem_of_find?_eq_some hx)
    · simp
  refine callK.mk ent_r6_SameSym (r6_SameSym_cs (symR n v.syms).1 (symR n v.syms).1 hy) ?_
  simp
  refine callK.mk ent_r6_SameHole (r6_SameHole_cs (holeR n v.holes).1 (holeR n v.holes).1 hh) ?_
  simp
  refine callK.mk ent_l6_awake (l6_awake_cs ) ?_
  simp
theorem sortFinds_all (xs : List D) (h : FitsAll Tryd.prog [36, 9] xs) : CS Tryd.prog G0 5 xs (.d (.bool true)) none := by
  match xs, h with
  | [a, b], ⟨h1, h2, _⟩ =>
    obtain ⟨v, rfl⟩ := fitV_env h1
    obtain ⟨s, rfl, _⟩ := fitsV_str tu9 h2
    exact l6_SortFinds_cs v s
end Go.Proofs.YthhfdlhbhfkbdaaDoor
