/- The statement SortLooks. No condition. -/
import Derived.Test.YthhfdlhbhfkbdaaDoorSs
import Derived.Test.YthhfdlhbhfkbdaaDoorSp
set_option linter.unusedVariables false
set_option linter.unusedSimpArgs false
set_option linter.unusedSectionVars false
namespace Go.Proofs.YthhfdlhbhfkbdaaDoor
open Go Go.VM
set_option maxRecDepth 100000
set_option maxHeartbeats 8000000
theorem l6_SortLooks_cs (v : EnvL) (x : List UInt8 × List UInt8) (n : List UInt8) : CS Tryd.prog G0 8 [.agg (envC v), .agg (varC x), .str n] (.d (.bool true)) none := by
  refine CS.of_VK Tryd.func8 rfl Tryd.ntmps8 rfl ?_
  simp [envC, varC]
  refine callK.mk ent_l6_light (l6_light_cs v) ?_
  cases h : lightB v
  · simp
    refine callK.mk ent_l6_awake (l6_awake_cs ) ?_
    simp
  have hf := light_fit h
  have hfa := addR_fit h x
  simp
  refine callK.mk ent_l6_short (l6_short_cs [x] (by simp)) ?_
  cases h1 : shortV [x]
  · simp
    refine callK.mk ent_l6_awake (l6_awake_cs ) ?_
    simp
  simp
  by_cases h2 : 300 < n.length
  · simp [h2]
    refine callK.mk ent_l6_awake (l6_awake_cs ) ?_
    simp
  simp [h2]
  refine callK.mk ent_s_With (s_With_cs v x hf) ?_
  simp [envC]
  refine callK.mk ent_s_Var (s_Var_cs ⟨addR v.vars x, v.syms, v.holes⟩ x.1 hfa.vars) ?_
  simp [varR_add_self]
  refine callK.mk ent_s_Var (s_Var_cs v n hf.vars) ?_
  simp
  refine callK.mk ent_s_Var (s_Var_cs ⟨addR v.vars x, v.syms, v.holes⟩ n hfa.vars) ?_
  have tail : ∀ (Q : Prop), ((n = x.1) = True → (varR n (addR v.vars x)) = (x.2, true) → Q) → ((n = x.1) = False → (varR n (addR v.vars x)) = varR n v.vars → Q) → Q := fun Q q1 q2 => by
    by_cases hn : n = x.1
    · exact q1 (eq_true hn) (by rw [hn]; exact varR_add_self _ _)
    · exact q2 (eq_false hn) (varR_add_ne hn)
  refine tail _ (fun hn he => ?_) (fun hn he => ?_)
  all_goals
    simp [he, hn]
    refine callK.mk ent_l6_awake (l6_awake_cs ) ?_
    simp
    refine callK.mk ent_s_Env (s_Env_cs G0_kw v) ?_
    by_cases henv : envE v = 0
    rotate_left
    simp [henv]
    simp [henv]
    refine callK.mk ent_s_Find (s_Find_cs v n hf.syms hf.args) ?_
    simp [symC]
    refine callK.mk ent_s_Hole (s_Hole_cs v n hf.holes hf.params) ?_
    simp [holeC]
    have post : ∀ (Q : Prop), ((varR n v.vars).2 = false → Q) → ((varR n v.vars).2 = true → sortB (varR n v.vars).1 = true → Q) → Q := fun Q q1 q2 => by
      cases q : (varR n v.vars).2
      · exact q1 q
      · exact q2 q (var_sort henv q)
    have post2 : ∀ (Q : Prop), ((symR n v.syms).2 = false → Q) → ((symR n v.syms).2 = true → (n = [116, 97, 103]) = True → Q) → ((symR n v.syms).2 = true → (n = [116, 97, 103]) = False → (n = [118, 97, 108]) = True → Q) → ((symR n v.syms).2 = true → (n = [116, 97, 103]) = False → (n = [118, 97, 108]) = False → symE (symR n v.syms).1 = 0 → Q) → Q := fun Q q1 q2 q3 q4 => by
      cases q : (symR n v.syms).2
      · exact q1 q
      · by_cases g1 : n = [116, 97, 103]
        · exact q2 q (eq_true g1)
        · by_cases g2 : n = [118, 97, 108]
          · exact q3 q (eq_false g1) (eq_true g2)
          · exact q4 q (eq_false g1) (eq_false g2) (sym_right henv q g1 g2)
    refine post _ (fun a1 => ?_) (fun a1 a2 => ?_)
    simp [a1]
    rotate_left
    simp [a1]
    refine callK.mk ent_s_Check (s_Check_cs G0_kw _) ?_
    simp [sortE, a2]
  all_goals
    refine post2 _ (fun a1 => ?_) (fun a1 a2 => ?_) (fun a1 a2 a3 => ?_) (fun a1 a2 a3 a4 => ?_)
    simp [a1]
    rotate_left
    simp [a1, a2]
    rotate_left
    simp [a1, a2, a3]
    rotate_left
    simp [a1, a2, a3]
    refine callK.mk ent_s_Sym (s_Sym_cs G0_kw _) ?_
    simp [a4]
  all_goals
    cases b1 : (holeR n v.holes).2
    simp
    obtain ⟨b2, b3⟩ := hole_right henv b1
    simp
    refine callK.mk ent_s_Env (CS.args (s_Env_cs G0_kw ⟨[], [], [(holeR n v.holes).1]⟩) (by simp [envC, varsC, symsC, holes_one])) ?_
    simp [b2]
    refine callK.mk ent_r4_Core (r4_Core_cs _) ?_
    simp [b3, errName]
theorem sortLooks_all (xs : List D) (h : FitsAll Tryd.prog [36, 62, 9] xs) : CS Tryd.prog G0 8 xs (.d (.bool true)) none := by
  match xs, h with
  | [a, b, c], ⟨h1, h2, h3, _⟩ =>
    obtain ⟨v, rfl⟩ := fitV_env h1
    obtain ⟨s, rfl⟩ := fitV_var h2
    obtain ⟨n, rfl, _⟩ := fitsV_str tu9 h3
    exact l6_SortLooks_cs v s n
end Go.Proofs.YthhfdlhbhfkbdaaDoor
