/- Environments: equality, and one more variable, in the reference. No condition. -/
import Derived.Test.YtmjpdmkgmlhfaaaDoorZA
set_option linter.unusedVariables false
set_option linter.unusedSimpArgs false
set_option linter.unusedSectionVars false
namespace Go.Proofs.YtmjpdmkgmlhfaaaDoor
open Go Go.VM
set_option maxRecDepth 100000
set_option maxHeartbeats 4000000
variable {G : GT}
theorem EnvL.ext_iff (a b : EnvL) : a = b ↔ a.vars = b.vars ∧ a.syms = b.syms ∧ a.holes = b.holes := by
  cases a; cases b; simp
instance : DecidableEq EnvL := fun a b => decidable_of_iff _ (EnvL.ext_iff a b).symm
/-- No list is longer than a million. -/
structure Fit (v : EnvL) : Prop where
  vars : v.vars.length ≤ 2000000
  syms : v.syms.length ≤ 2000000
  holes : v.holes.length ≤ 2000000
  args : ∀ y ∈ v.syms, y.args.length ≤ 2000000
  params : ∀ h ∈ v.holes, h.params.length ≤ 2000000
/-- The variables, the last one new. -/
def addR (l : List (List UInt8 × List UInt8)) (x : List UInt8 × List UInt8) : List (List UInt8 × List UInt8) := (l.filter fun y => !decide (y.1 = x.1)) ++ [x]
theorem varsC_app (l : List (List UInt8 × List UInt8)) (x : List UInt8 × List UInt8) : varsC (l ++ [x]) = varsC l ++ [[.str x.1, .str x.2]] := by simp [varsC, varC]
attribute [simp] varsC_app
theorem ent_r6_Add : VM.Enters Tryd.prog 110 := VM.Enters.mk Tryd.func110 rfl
theorem r6_Add_cs (l : List (List UInt8 × List UInt8)) (x : List UInt8 × List UInt8) (hl : l.length ≤ 2000000) : CS Tryd.prog G 110 [.sl (varsC l), .agg (varC x)] (.d (.sl (varsC (addR l x)))) none := by
  obtain ⟨xn, xs⟩ := x
  refine CS.of_VK Tryd.func110 rfl Tryd.ntmps110 rfl ?_
  simp [varC]
  refine SW.loopF (ι := { y : Nat × List (List UInt8 × List UInt8) // y.1 ≤ l.length ∧ y.2.length ≤ y.1 ∧ addR l (xn, xs) = y.2 ++ addR (l.drop y.1) (xn, xs) }) (fun y => [(5, .d (.sl (varsC y.1.2))), (6, .d (.int .i64 y.1.1))]) (fun _ => [(3, .cells [.d (.str xn), .d (.str xs)])]) (fun _ => [(76, [.t 5])]) (fun y => l.length - y.1.1) ⟨(0, []), by simp⟩ (by simp [varsC]) ?_
  rintro ⟨⟨i, out⟩, hi, ho, he⟩
  simp only at hi ho he
  have hsz : (out.length + 1) * 33 ≤ 140737488355328 := by omega
  by_cases hlt : i < l.length
  · have hw := wrap64s (show i < 9223372036854775807 by omega)
    have hst : addR (l.drop i) (xn, xs) = (if l[i].1 = xn then [] else [l[i]]) ++ addR (l.drop (i + 1)) (xn, xs) := by
      unfold addR
      rw [List.drop_eq_getElem_cons hlt, List.filter_cons]
      by_cases hk : l[i].1 = xn <;> simp [hk]
    rw [hst] at he
    by_cases hk : l[i].1 = xn
    · simp [hlt, hk]
      exact ⟨lexOk.mk (by kernel_rfl), Again.mk ⟨(i + 1, out), hlt, by simp; omega, by simpa [hk] using he⟩ (by simp [hw]) (by simp; omega)⟩
    · simp [hlt, hk, hsz]
      exact ⟨lexOk.mk (by kernel_rfl), Again.mk ⟨(i + 1, out ++ [l[i]]), hlt, by simp; omega, by simpa [hk] using he⟩ (by simp [hw]) (by simp; omega)⟩
  · have hd : l.drop i = [] := List.drop_of_length_le (by omega)
    rw [hd] at he
    simp [hlt, hsz]
    rw [he]
    simp [addR]
end Go.Proofs.YtmjpdmkgmlhfaaaDoor
