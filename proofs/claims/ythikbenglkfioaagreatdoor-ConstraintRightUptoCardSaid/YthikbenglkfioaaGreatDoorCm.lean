/- The statements ConstraintChecks, ConstraintRight. No condition. -/
import Derived.Test.YthikbenglkfioaaGreatDoorCk
import Derived.Test.YthikbenglkfioaaGreatDoorCj
import Derived.Test.YthikbenglkfioaaGreatDoorCb
import Derived.Test.YthikbenglkfioaaGreatDoorCy
import Derived.Test.YthikbenglkfioaaGreatDoorSy
import Derived.Test.YthikbenglkfioaaGreatDoorZ9
set_option linter.unusedVariables false
set_option linter.unusedSimpArgs false
set_option linter.unusedSectionVars false
namespace Go.Proofs.YthikbenglkfioaaGreatDoor
open Go Go.VM
set_option maxRecDepth 100000
set_option maxHeartbeats 8000000
theorem fewB_oneG (c : Cn) : fewB [c] = fewC c := by simp [fewB, fewCs]
mutual
theorem few_wtG : ∀ c : Cn, fewC c = true → wtC c ≤ nodC c * 61
  | ⟨op, nm, s, p, t, l⟩, h => by
    simp only [fewC, Bool.and_eq_true, decide_eq_true_eq] at h
    have := fews_wtG l h.2.2.1
    simp only [wtC, nodC, Nat.add_mul]
    omega
theorem fews_wtG : ∀ l : List Cn, fewCs l = true → wtCs l ≤ nodCs l * 61
  | [], _ => by simp [wtCs]
  | c :: r, h => by
    simp only [fewCs, Bool.and_eq_true] at h
    have h1 := few_wtG c h.1
    have h2 := fews_wtG r h.2
    simp only [wtCs, nodCs, Nat.add_mul]
    omega
end
theorem few_smallG {c : Cn} (h : fewC c = true) : nodC c ≤ 60 ∧ wtC c ≤ 3660 := by
  have h1 := few_wtG c h
  rw [fewC_eq] at h
  simp only [Bool.and_eq_true, decide_eq_true_eq] at h
  omega
theorem l38_ConstraintChecks_cs (v : EnvL) (c : Cn) (hs : szL (cnC c) ≤ 1048576) : CS Tryz.prog G0 5 [.agg (envC v), .agg (cnD c)] (.d (.bool true)) none := by
  have hw := wtC_sz c
  have hf := l38_few_cs (G := G0) (wtCs [c]) [c] (Nat.le_refl _) (by simp [wtCs]; omega)
  have hsm := l38_small_cs (G := G0) v
  rw [fewB_oneG] at hf
  simp at hf
  simp only [envC] at hsm ⊢
  refine CS.of_VK Tryz.func5 rfl Tryz.ntmps5 rfl ?_
  simp
  refine ⟨lexOk.mk (by kernel_rfl), ?_⟩
  refine callK.mk ent_l38_few hf ?_
  cases hfw : fewC c
  · simp
    refine callK.mk ent_l38_alive (l38_alive_cs ) ?_
    simp
  have hwt := (few_smallG hfw).2
  simp
  refine callK.mk ent_l38_small hsm ?_
  cases hsv : smallE v
  · simp
    refine callK.mk ent_l38_alive (l38_alive_cs ) ?_
    simp
  have h1 := constraint_Check_cs (G := G0) G0_kw c v (by omega)
  have h2 := r38_Check_cs (G := G0) c v (by omega)
  simp only [envC] at h1 h2
  simp
  refine callK.mk ent_constraint_Check h1 ?_
  simp
  refine callK.mk ent_r38_Check h2 ?_
  simp
  refine callK.mk ent_l38_alive (l38_alive_cs ) ?_
  simp
theorem constraintChecks_all (xs : List D) (h : FitsAll Tryz.prog [26, 54] xs) (hsz : szL xs ≤ 1048576) : CS Tryz.prog G0 5 xs (.d (.bool true)) none := by
  match xs, h with
  | [a, b], ⟨h1, h2, _⟩ =>
    obtain ⟨v, rfl⟩ := fitV_env h1
    obtain ⟨c, rfl⟩ := fitV_cn h2
    simp only [szL, szD] at hsz
    have := l38_ConstraintChecks_cs v c (by omega)
    rw [cnC_eq]
    exact this
theorem bool_nod {v : EnvL} {p : Pr} (h : boolE v p = 0) : nodP p ≤ 400 := by
  rcases boolE_zero h with rfl | ⟨h1, _⟩
  · simp [zerP, nodP, nodPs]
  · exact (chkE_parts.1 h1).1
theorem l38_ConstraintRight_cs (v : EnvL) (c : Cn) (hs : szL (cnC c) ≤ 1048576) : CS Tryz.prog G0 6 [.agg (envC v), .agg (cnD c)] (.d (.bool true)) none := by
  have hw := wtC_sz c
  have hf := l38_few_cs (G := G0) (wtCs [c]) [c] (Nat.le_refl _) (by simp [wtCs]; omega)
  have hsm := l38_small_cs (G := G0) v
  rw [fewB_oneG] at hf
  simp at hf
  simp only [envC, varsC_vr] at hsm ⊢
  refine CS.of_VK Tryz.func6 rfl Tryz.ntmps6 rfl ?_
  simp
  refine callK.mk ent_l38_few hf ?_
  cases hfw : fewC c
  · simp
    refine callK.mk ent_l38_alive (l38_alive_cs ) ?_
    simp
  have hwt := (few_smallG hfw).2
  simp
  refine callK.mk ent_l38_small hsm ?_
  cases hsv : smallE v
  · simp
    refine callK.mk ent_l38_alive (l38_alive_cs ) ?_
    simp
  have h1 := constraint_Check_cs (G := G0) G0_kw c v (by omega)
  simp only [envC, varsC_vr] at h1
  simp
  refine callK.mk ent_constraint_Check h1 ?_
  by_cases h0 : chkTop v c = 0
  rotate_left
  · simp [h0]
    refine callK.mk ent_l38_alive (l38_alive_cs ) ?_
    simp
  have hev : envE v = 0 := by
    unfold chkTop at h0
    split at h0
    · assumption
    · rename_i h9
      exact absurd h0 h9
  have hvl := varsE_len (l := v.vars) (by
    unfold envE at hev
    split at hev
    · assumption
    · rename_i h9
      exact absurd hev h9)
  have hok := flat_right h0
  have hFl := constraint_Flat_cs (G := G0) c (by omega)
  have hlen := flatC_len c [] []
  obtain ⟨F, hF⟩ : ∃ F, flatC c [] [] = F := ⟨_, rfl⟩
  have hokl := flat_OkL (c := c) (by omega)
  rw [hF] at hok hFl hlen hokl
  simp [h0]
  refine callK.mk ent_constraint_Flat hFl ?_
  simp
  refine SW.loopF (ι := { i : Nat // i ≤ F.length }) (fun i => [(29, .d (.int .i64 i.1))]) (fun _ => [(2, .cells [.d (.sl (v.vars.map vrC)), .d (.sl (symsC v.syms)), .d (.sl (holesC v.holes))]), (3, cnO c.op c.name c.sort c.pred c.tag (.sl (c.kids.map cnC)))]) (fun _ => []) (fun i => F.length - i.1) ⟨0, by simp⟩ (by simp) ?_
  rintro ⟨i, hi⟩
  by_cases hlt : i < F.length
  rotate_left
  · have : i = F.length := by omega
    subst this
    simp
    refine callK.mk ent_l38_alive (l38_alive_cs ) ?_
    simp
  obtain ⟨k, hk⟩ : ∃ k, F[i] = k := ⟨_, rfl⟩
  have hg := cls_get hlt
  rw [hk] at hg
  obtain ⟨o1, o2, o3⟩ := hok k (hk ▸ List.getElem_mem hlt)
  have hwr := wrap64s (show i < 9223372036854775807 by omega)
  have hhl := len_le_nodPs k.hyps
  have hhl2 := (hokl k (hk ▸ List.getElem_mem hlt)).2.1
  have hkl := varsE_len (l := v.vars ++ k.vars) (by
    unfold envE at o1
    split at o1
    · assumption
    · rename_i h9
      exact absurd o1 h9)
  simp only [List.length_append] at hkl
  have hE := r6_Env_cs (G := G0) ⟨v.vars ++ k.vars, v.syms, v.holes⟩
  have hB := r9_Bool_cs (G := G0) ⟨v.vars ++ k.vars, v.syms, v.holes⟩ (fitE_of o1) k.head (by have := bool_nod o2; omega)
  rw [o1] at hE
  rw [o2] at hB
  simp only [envC, varsC_vr] at hE hB
  simp at hE hB
  have hsz : v.vars.length * 33 ≤ 140737488355328 := by omega
  have hsz2 : (v.vars.length + k.vars.length) * 33 ≤ 140737488355328 := by omega
  simp [hlt, hg, hk, hsz, hsz2]
  refine ⟨lexOk.mk (by kernel_rfl), ?_⟩
  refine callK.mk ent_r6_Env hE ?_
  simp
  refine callK.mk ent_r9_Bool hB ?_
  simp
  refine SW.loopF (ι := { j : Nat // j ≤ k.hyps.length }) (fun j => [(55, .d (.int .i64 j.1))]) (fun _ => [(2, .cells [.d (.sl (v.vars.map vrC)), .d (.sl (symsC v.syms)), .d (.sl (holesC v.holes))]), (3, cnO c.op c.name c.sort c.pred c.tag (.sl (c.kids.map cnC))), (6, clO k), (7, .cells [.d (.sl ((v.vars ++ k.vars).map vrC)), .d (.sl (symsC v.syms)), .d (.sl (holesC v.holes))])]) (fun _ => []) (fun j => k.hyps.length - j.1) ⟨0, by simp⟩ (by simp) ?_
  rintro ⟨j, hj⟩
  by_cases hjl : j < k.hyps.length
  rotate_left
  · have : j = k.hyps.length := by omega
    subst this
    simp
    exact Again.mk ⟨i + 1, hlt⟩ (by simp [hwr]) (by simp; omega)
  have hgj := prs_get hjl
  obtain ⟨q, hq⟩ : ∃ q, k.hyps[j] = q := ⟨_, rfl⟩
  rw [hq] at hgj
  obtain ⟨b1, b2⟩ := o3 q (hq ▸ List.getElem_mem hjl)
  have hwj := wrap64s (show j < 9223372036854775807 by omega)
  have hnq := bool_nod b1
  have hB2 := r9_Bool_cs (G := G0) ⟨v.vars ++ k.vars, v.syms, v.holes⟩ (fitE_of o1) q (by omega)
  have hV := r7_Void_cs (G := G0) q (by omega)
  rw [b1] at hB2
  rw [b2] at hV
  simp only [envC, varsC_vr] at hB2
  simp at hB2
  simp [hjl, hgj, hq]
  refine callK.mk ent_r9_Bool hB2 ?_
  simp
  refine callK.mk ent_r7_Void hV ?_
  simp
  exact Again.mk ⟨j + 1, hjl⟩ (by simp [hwj]) (by simp; omega)
theorem constraintRight_all (xs : List D) (h : FitsAll Tryz.prog [26, 54] xs) (hsz : szL xs ≤ 1048576) : CS Tryz.prog G0 6 xs (.d (.bool true)) none := by
  match xs, h with
  | [a, b], ⟨h1, h2, _⟩ =>
    obtain ⟨v, rfl⟩ := fitV_env h1
    obtain ⟨c, rfl⟩ := fitV_cn h2
    simp only [szL, szD] at hsz
    have := l38_ConstraintRight_cs v c (by omega)
    rw [cnC_eq]
    exact this
end Go.Proofs.YthikbenglkfioaaGreatDoor
