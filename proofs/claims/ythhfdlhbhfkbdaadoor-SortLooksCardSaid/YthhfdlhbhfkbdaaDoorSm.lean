/- Environments: equality, and one more variable, in the reference. No condition. -/
import Derived.Test.YthhfdlhbhfkbdaaDoorSl
set_option linter.unusedVariables false
set_option linter.unusedSimpArgs false
set_option linter.unusedSectionVars false
namespace Go.Proofs.YthhfdlhbhfkbdaaDoor
open Go Go.VM
set_option maxRecDepth 100000
set_option maxHeartbeats 4000000
variable {G : GT}
theorem EnvL.ext_iff (a b : EnvL) : a = b ↔ a.vars = b.vars ∧ a.syms = b.syms ∧ a.holes = b.holes := by
  cases a; cases b; simp
instance : DecidableEq EnvL := fun a b => decidable_of_iff _ (EnvL.ext_iff a b).symm
/-- No list is longer than a million. -/
structure Fit (v : EnvL) : Prop where
  vars : v.vars.length ≤ 1000000
  syms : v.syms.length ≤ 1000000
  holes : v.holes.length ≤ 1000000
  args : ∀ y ∈ v.syms, y.args.length ≤ 1000000
  params : ∀ h ∈ v.holes, h.params.length ≤ 1000000
theorem ent_r6_Same : Enters Tryd.prog 30 := Enters.mk Tryd.func30 rfl
theorem r6_Same_cs (a b : EnvL) (hl : Fit a) : CS Tryd.prog G 30 [.agg (envC a), .agg (envC b)] (.d (.bool (decide (a = b)))) none := by
  obtain ⟨v1, s1, o1⟩ := a
  obtain ⟨v2, s2, o2⟩ := b
  obtain ⟨f1, f2, f3, f4, f5⟩ := hl
  simp only at f1 f2 f3 f4 f5
  refine CS.of_VK Tryd.func30 rfl Tryd.ntmps30 rfl ?_
  by_cases h1 : s1.length = s2.length
  · simp [envC, h1]
    refine SW.loopF (ι := { i : Nat // i ≤ s1.length ∧ (s1 = s2) = (s1.drop i = s2.drop i) }) (fun i => [(5, .d (.int .i64 i.1))]) (fun _ => [(2, .cells [.sl (varsC v1), .sl (symsC s1), .sl (holesC o1)]), (3, .cells [.sl (varsC v2), .sl (symsC s2), .sl (holesC o2)])]) (fun _ => []) (fun i => s1.length - i.1) ⟨0, by simp⟩ (by simp) ?_
    rintro ⟨i, hi, he⟩
    by_cases hlt : i < s1.length
    · have hw := wrap64s (show i < 9223372036854775807 by omega)
      have hlb : i < s2.length := by omega
      obtain ⟨h2, h3⟩ := eq_step h1 he hlt hlb
      simp [hlt, hlb]
      refine ⟨lexOk.mk (by kernel_rfl), ?_⟩
      refine callK.mk ent_r6_SameSym (r6_SameSym_cs s1[i] s2[i] (f4 _ (List.getElem_mem hlt))) ?_
      by_cases hx : s1[i] = s2[i]
      · simp [hx]
        exact Again.mk ⟨i + 1, hlt, h2 hx⟩ (by simp [hw]) (by simp; omega)
      · simp [hx]
        intro _ h
        exact absurd h (h3 hx)
    · have hlb : ¬ i < s2.length := by omega
      have hss : s1 = s2 := eq_end h1 he hlt
      simp [hlt, hlb]
      refine callK.mk ent_r6_SameVars (r6_SameVars_cs v1 v2 f1) ?_
      by_cases hv : v1 = v2
      · simp [hv]
        refine callK.mk ent_r6_SameHoles (r6_SameHoles_cs o1 o2 f3 f5) ?_
        simp [hss]
      · simp [hv]
  · have : ¬ s1 = s2 := fun h => h1 (by rw [h])
    simp [envC, h1, this]
/-- The variables, the last one new. -/
def addR (l : List (List UInt8 × List UInt8)) (x : List UInt8 × List UInt8) : List (List UInt8 × List UInt8) := (l.filter fun y => !decide (y.1 = x.1)) ++ [x]
theorem varsC_app (l : List (List UInt8 × List UInt8)) (x : List UInt8 × List UInt8) : varsC (l ++ [x]) = varsC l ++ [[.str x.1, .str x.2]] := by simp [varsC, varC]
attribute [simp] varsC_app
theorem ent_r6_Add : Enters Tryd.prog 47 := Enters.mk Tryd.func47 rfl
theorem r6_Add_cs (l : List (List UInt8 × List UInt8)) (x : List UInt8 × List UInt8) (hl : l.length ≤ 1000000) : CS Tryd.prog G 47 [.sl (varsC l), .agg (varC x)] (.d (.sl (varsC (addR l x)))) none := by
  obtain ⟨xn, xs⟩ := x
  refine CS.of_VK Tryd.func47 rfl Tryd.ntmps47 rfl ?_
  simp [varC]
  refine SW.loopF (ι := { y : Nat × List (List UInt8 × List UInt8) // y.1 ≤ l.length ∧ y.2.length ≤ y.1 ∧ addR l (xn, xs) = y.2 ++ addR (l.drop y.1) (xn, xs) }) (fun y => [(5, .d (.sl (varsC y.1.2))), (6, .d (.int .i64 y.1.1))]) (fun _ => [(3, .cells [.str xn, .str xs])]) (fun _ => [(62, [.t 5])]) (fun y => l.length - y.1.1) ⟨(0, []), by simp⟩ (by simp [varsC]) ?_
  rintro ⟨⟨i, out⟩, hi, ho, he⟩
  simp only at hi ho he
  have hsz : (out.length + 1) * 33 ≤ 140737488355328 := by omega
  by_cases hlt : i < l.length
  · have hw := wrap64s (show i < 9223372036854775807 by omega)
    have hst : addR (l.drop i) (xn, xs) = (if l[i].1 = xn then [] else [l[i]]) ++ addR (l.drop (i + 1)) (xn, xs) := by
      unfold addR
      rw [List.drop_eq_getElem_cons hlt, List.filter_cons]
      by_cases hk : l[i].1 = xn <;> simp [hk]
    rw [hst] at he
    by_cases hk : l[i].1 = xn
    · simp [hlt, hk]
      exact ⟨lexOk.mk (by kernel_rfl), Again.mk ⟨(i + 1, out), hlt, by simp; omega, by simpa [hk] using he⟩ (by simp [hw]) (by simp; omega)⟩
    · simp [hlt, hk, hsz]
      exact ⟨lexOk.mk (by kernel_rfl), Again.mk ⟨(i + 1, out ++ [l[i]]), hlt, by simp; omega, by simpa [hk] using he⟩ (by simp [hw]) (by simp; omega)⟩
  · have hd : l.drop i = [] := List.drop_of_length_le (by omega)
    rw [hd] at he
    simp [hlt, hsz]
    rw [he]
    simp [addR]
theorem ent_r6_With : Enters Tryd.prog 32 := Enters.mk Tryd.func32 rfl
theorem r6_With_cs (v : EnvL) (x : List UInt8 × List UInt8) (hl : v.vars.length ≤ 1000000) : CS Tryd.prog G 32 [.agg (envC v), .agg (varC x)] (.d (.agg (envC ⟨addR v.vars x, v.syms, v.holes⟩))) none := by
  obtain ⟨vs, ss, hs⟩ := v
  simp only at hl
  refine CS.of_VK Tryd.func32 rfl Tryd.ntmps32 rfl ?_
  simp [envC, varC]
  refine ⟨lexOk.mk (by kernel_rfl), ?_⟩
  refine callK.mk ent_r6_Add (r6_Add_cs vs x hl) ?_
  simp
end Go.Proofs.YthhfdlhbhfkbdaaDoor
