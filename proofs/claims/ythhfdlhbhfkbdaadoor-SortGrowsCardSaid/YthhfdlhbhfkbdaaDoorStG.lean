/- The statement SortGrows. No condition. -/
import Derived.Test.YthhfdlhbhfkbdaaDoorSs
import Derived.Test.YthhfdlhbhfkbdaaDoorSp
set_option linter.unusedVariables false
set_option linter.unusedSimpArgs false
set_option linter.unusedSectionVars false
namespace Go.Proofs.YthhfdlhbhfkbdaaDoor
open Go Go.VM
set_option maxRecDepth 100000
set_option maxHeartbeats 8000000
theorem l6_SortGrows_cs (v : EnvL) (x : List UInt8 × List UInt8) : CS Tryd.prog G0 9 [.agg (envC v), .agg (varC x)] (.d (.bool true)) none := by
  refine CS.of_VK Tryd.func9 rfl Tryd.ntmps9 rfl ?_
  simp [envC, varC]
  refine callK.mk ent_l6_light (l6_light_cs v) ?_
  cases h : lightB v
  · simp
    refine callK.mk ent_l6_awake (l6_awake_cs ) ?_
    simp
  have hf := light_fit h
  have hfa := addR_fit h x
  simp
  refine callK.mk ent_l6_short (l6_short_cs [x] (by simp)) ?_
  cases h1 : shortV [x]
  · simp
    refine callK.mk ent_l6_awake (l6_awake_cs ) ?_
    simp
  simp
  refine callK.mk ent_s_Env (s_Env_cs G0_kw v) ?_
  by_cases he : envE v = 0
  rotate_left
  · simp [he]
    refine callK.mk ent_l6_awake (l6_awake_cs ) ?_
    simp
  have hn : ∀ (Q : Prop), ((x.1 = [118]) = True → vnB x.1 = true → Q) → ((x.1 = [118]) = False → coreB x.1 = true → vnB x.1 = true → Q) → ((x.1 = [118]) = False → coreB x.1 = false → Q) → Q := fun Q q1 q2 q3 => by
    by_cases g : x.1 = [118]
    · exact q1 (eq_true g) (by simp [vnB, g])
    · cases c : coreB x.1
      · exact q3 (eq_false g) c
      · exact q2 (eq_false g) c (by simp [vnB, c])
  refine hn _ (fun a1 a2 => ?_) (fun a1 a3 a2 => ?_) (fun a1 a3 => ?_)
  rotate_left 2
  · simp [he, a1]
    refine callK.mk ent_r4_Core (r4_Core_cs _) ?_
    simp [a3, errName]
    refine callK.mk ent_l6_awake (l6_awake_cs ) ?_
    simp
  simp [he, a1]
  refine callK.mk ent_s_Check (s_Check_cs G0_kw _) ?_
  rotate_left
  simp [he, a1]
  refine callK.mk ent_r4_Core (r4_Core_cs _) ?_
  simp [a3, errName]
  refine callK.mk ent_s_Check (s_Check_cs G0_kw _) ?_
  all_goals
    cases hs : sortB x.2
    · simp [sortE, hs]
      refine callK.mk ent_l6_awake (l6_awake_cs ) ?_
      simp
    simp [sortE, hs]
    refine callK.mk ent_s_With (s_With_cs v x hf) ?_
    simp [envC]
    refine callK.mk ent_s_Env (s_Env_cs G0_kw ⟨addR v.vars x, v.syms, v.holes⟩) ?_
    obtain ⟨e1, e2, e3⟩ := env_parts he
    have e4 : envE ⟨addR v.vars x, v.syms, v.holes⟩ = if (addR v.vars x).length ≤ 24 then 0 else 7 := by
      unfold envE
      rw [vars_grow e1 a2 hs]
      by_cases hl : (addR v.vars x).length ≤ 24 <;> simp [hl, e2, e3]
    by_cases hl : (addR v.vars x).length ≤ 24
    · simp [e4, hl]
      refine callK.mk ent_l6_awake (l6_awake_cs ) ?_
      simp
    · simp [e4, hl]
      refine callK.mk ent_l6_awake (l6_awake_cs ) ?_
      simp
theorem sortGrows_all (xs : List D) (h : FitsAll Tryd.prog [36, 62] xs) : CS Tryd.prog G0 9 xs (.d (.bool true)) none := by
  match xs, h with
  | [a, b], ⟨h1, h2, _⟩ =>
    obtain ⟨v, rfl⟩ := fitV_env h1
    obtain ⟨s, rfl⟩ := fitV_var h2
    exact l6_SortGrows_cs v s
end Go.Proofs.YthhfdlhbhfkbdaaDoor
