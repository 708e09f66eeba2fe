/- Bounds: the walks of the checks. No condition. -/
import Derived.Test.YthikbenglkfioaaDoorBc
import Derived.Test.YthikbenglkfioaaDoorSp
import Derived.Test.YthikbenglkfioaaDoorPs
set_option linter.unusedVariables false
set_option linter.unusedSimpArgs false
set_option linter.unusedSectionVars false
namespace Go.Proofs.YthikbenglkfioaaDoor
open Go Go.VM
set_option maxRecDepth 100000
set_option maxHeartbeats 8000000
variable {G : GT}
/-! ### The checks -/
def withR (v : EnvL) (x : Nm × Nm) : EnvL := ⟨addR v.vars x, v.syms, v.holes⟩
def withL (v : EnvL) (l : List Vr) : EnvL := l.foldl withR v
theorem withL_step {v : EnvL} {l : List Vr} {i : Nat} (h : i < l.length) : withL v (l.take (i + 1)) = withR (withL v (l.take i)) l[i] := by
  rw [List.take_succ_eq_append_getElem h]
  unfold withL
  rw [List.foldl_append]
  rfl
theorem addR_len (l : List (Nm × Nm)) (x : Nm × Nm) : (addR l x).length ≤ l.length + 1 := by
  unfold addR
  have := List.length_filter_le (fun y => !decide (y.1 = x.1)) l
  simp
  omega
theorem withL_fit (l : List Vr) : ∀ v : EnvL, v.vars.length + l.length ≤ 2000000 → Fit v → Fit (withL v l) := by
  induction l with
  | nil => intro v _ h; exact h
  | cons x r ih =>
    intro v hv h
    have := addR_len v.vars x
    simp only [List.length_cons] at hv
    exact ih (withR v x) (by simp only [withR]; omega) ⟨by simp only [withR]; omega, h.syms, h.holes, h.args, h.params⟩
theorem fitE_fit {v : EnvL} (h : Fit v) : FitE v := ⟨h.vars, h.syms, h.args, h.holes, h.params⟩
def sortsE (l : List Vr) : Int := if (l.all fun x => sortB x.2) = true then 0 else 11
def bndE (v : EnvL) (b : Bd) : Int :=
  if b.vars.length < 1 ∨ 6 < b.vars.length then 13 else if (bdN b).all coreB = false then 3 else if ¬ (bdN b).Nodup then 4 else if sortsE b.vars ≠ 0 then 11
  else if boolE (withL v b.vars) b.hyp = 0 then boolE (withL v b.vars) b.goal else boolE (withL v b.vars) b.hyp
theorem all_take {α : Type} {f : α → Bool} {l : List α} {i : Nat} (h : i < l.length) : (l.take (i + 1)).all f = ((l.take i).all f && f l[i]) := by
  rw [List.take_succ_eq_append_getElem h, List.all_append, List.all_cons, List.all_nil, Bool.and_true]
theorem all_bad {α : Type} {f : α → Bool} {l : List α} {i : Nat} (h : i < l.length) (hb : f l[i] = false) : l.all f = false := by
  rw [List.all_eq_false]
  exact ⟨l[i], List.getElem_mem h, by simp [hb]⟩
theorem sortE_ne {s : Nm} (h : ¬ sortB s = true) : sortE s = 11 := by unfold sortE; rw [if_neg h]
theorem sortE_eq {s : Nm} (h : sortB s = true) : sortE s = 0 := by unfold sortE; rw [if_pos h]
abbrev envO2 (v : EnvL) : AObj := .cells [.d (.sl (varsC v.vars)), .d (.sl (symsC v.syms)), .d (.sl (holesC v.holes))]
theorem ent_bounds_Check : VM.Enters Tryd.prog 41 := VM.Enters.mk Tryd.func41 rfl
theorem bounds_Check_cs (hG : G 0 = some kwCells) (v : EnvL) (b : Bd) (hv : Fit v) (hv2 : v.vars.length ≤ 1999990) (h1 : nodP b.hyp ≤ 1000000) (h2 : nodP b.goal ≤ 1000000) :
    CS Tryd.prog G 41 [.agg (envC v), .agg (bdC b)] (.d (.int .i64 (bndE v b))) none := by
  simp only [envC]
  refine CS.of_VK Tryd.func41 rfl Tryd.ntmps41 rfl ?_
  by_cases c1 : b.vars.length < 1
  · have c2 : (b.vars.length : Int) < 1 := by omega
    simp [c1, c2, bndE]
  by_cases c2 : 6 < b.vars.length
  · have c3 : ¬ (b.vars.length : Int) < 1 := by omega
    have c4 : 6 < (b.vars.length : Int) := by omega
    simp [c2, c3, c4, bndE]
  have hm : bndE v b = if (bdN b).all coreB = false then 3 else if ¬ (bdN b).Nodup then 4 else if sortsE b.vars ≠ 0 then 11
      else if boolE (withL v b.vars) b.hyp = 0 then boolE (withL v b.vars) b.goal else boolE (withL v b.vars) b.hyp := by
    unfold bndE
    rw [if_neg (by omega)]
  have c3 : ¬ (b.vars.length : Int) < 1 := by omega
  have c4 : ¬ 6 < (b.vars.length : Int) := by omega
  have hnl : (bdN b).length = b.vars.length := by simp
  simp [c3, c4, c1, c2]
  refine callK.mk ent_bounds_variables (bounds_variables_cs b (by omega)) ?_
  simp
  refine SW.loopF (ι := { i : Nat // i ≤ b.vars.length ∧ ((bdN b).take i).all coreB = true }) (fun i => [(28, .d (.int .i64 i.1))]) (fun _ => [(2, envO2 v), (3, bdO b)]) (fun _ => []) (fun i => b.vars.length - i.1) ⟨0, by simp⟩ (by simp) ?_
  rintro ⟨i, hi, hR⟩
  try simp only at hi hR
  by_cases hlt : i < b.vars.length
  · have hlt' : i < (bdN b).length := by omega
    have hg := strs_get hlt'
    have hw := wrap64s (show i < 9223372036854775807 by omega)
    have hat := all_take (f := coreB) hlt'
    have hs : (bdN b)[i] = b.vars[i].1 := by simp
    rw [hs] at hg hat
    simp [hlt, hg]
    refine callK.mk ent_n_Core (n_Core_cs hG b.vars[i].1) ?_
    cases hc : coreB b.vars[i].1
    · have := all_bad (f := coreB) hlt' (by rw [hs]; exact hc)
      rw [if_pos this] at hm
      simp [errName, hm]
    · rw [hR, hc] at hat
      simp [errName]
      exact Again.mk ⟨i + 1, hlt, hat⟩ (by simp [hw]) (by simp; omega)
  have : i = b.vars.length := by omega
  subst this
  rw [← hnl, List.take_length] at hR
  rw [if_neg (by rw [hR]; simp)] at hm
  simp
  refine callK.mk ent_n_Distinct (n_Distinct_cs (bdN b) (by omega)) ?_
  by_cases hd : (bdN b).Nodup
  rotate_left
  · rw [if_pos hd] at hm
    simp [hd, hm]
  rw [if_neg (fun h => h hd)] at hm
  simp [hd]
  refine SW.loopF (ι := { i : Nat // i ≤ b.vars.length ∧ ((b.vars.take i).all fun x => sortB x.2) = true }) (fun i => [(42, .d (.int .i64 i.1))]) (fun _ => [(2, envO2 v), (3, bdO b)]) (fun _ => []) (fun i => b.vars.length - i.1) ⟨0, by simp⟩ (by simp) ?_
  rintro ⟨i, hi, hS⟩
  try simp only at hi hS
  by_cases hlt : i < b.vars.length
  · have hg := vrs_get hlt
    have hw := wrap64s (show i < 9223372036854775807 by omega)
    have hat := all_take (f := fun x : Vr => sortB x.2) hlt
    simp [hlt, hg]
    refine callK.mk ent_s_Check (s_Check_cs hG b.vars[i].2) ?_
    by_cases hc : sortB b.vars[i].2 = true
    · rw [hS, hc] at hat
      have he := sortE_eq hc
      simp [he]
      exact Again.mk ⟨i + 1, hlt, hat⟩ (by simp [hw]) (by simp; omega)
    · have he := sortE_ne hc
      have hb := all_bad (f := fun x : Vr => sortB x.2) hlt (by simpa using hc)
      have hse : sortsE b.vars = 11 := by unfold sortsE; rw [hb]; rfl
      rw [if_pos (by rw [hse]; decide)] at hm
      simp [he, hm]
  have : i = b.vars.length := by omega
  subst this
  rw [List.take_length] at hS
  have hse : sortsE b.vars = 0 := by unfold sortsE; rw [hS]; rfl
  rw [if_neg (fun h => h hse)] at hm
  simp
  refine SW.loopF (ι := { i : Nat // i ≤ b.vars.length }) (fun i => [(56, .d (.int .i64 i.1))]) (fun i => [(2, envO2 (withL v (b.vars.take i.1))), (3, bdO b)]) (fun _ => []) (fun i => b.vars.length - i.1) ⟨0, by simp⟩ (by simp [withL]) ?_
  rintro ⟨i, hi⟩
  by_cases hlt : i < b.vars.length
  · have hg := vrs_get hlt
    have hw := wrap64s (show i < 9223372036854775807 by omega)
    have hst := withL_step (v := v) hlt
    have hW := s_With_cs (G := G) (withL v (b.vars.take i)) b.vars[i] (withL_fit _ v (by simp; omega) hv)
    simp only [envC, varC] at hW
    simp [hlt, hg]
    refine callK.mk ent_s_With hW ?_
    simp
    exact Again.mk ⟨i + 1, hlt⟩ (by simp [hw, hst, withR]) (by simp; omega)
  have : i = b.vars.length := by omega
  subst this
  have hfw := fitE_fit (withL_fit b.vars v (by omega) hv)
  have hB1 := sorting_Bool_cs (G := G) hG (withL v b.vars) hfw b.hyp h1
  have hB2 := sorting_Bool_cs (G := G) hG (withL v b.vars) hfw b.goal h2
  simp only [envC] at hB1 hB2
  simp
  refine callK.mk ent_sorting_Bool hB1 ?_
  by_cases hb : boolE (withL v b.vars) b.hyp = 0
  rotate_left
  · rw [if_neg hb] at hm
    simp [hb, hm]
  rw [if_pos hb] at hm
  simp [hb]
  refine callK.mk ent_sorting_Bool hB2 ?_
  simp [hm]
end Go.Proofs.YthikbenglkfioaaDoor
