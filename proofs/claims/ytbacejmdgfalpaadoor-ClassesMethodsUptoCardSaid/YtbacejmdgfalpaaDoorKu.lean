/- The statements ClassesChecks and ClassesMethods. No condition. -/
import Derived.Test.YtbacejmdgfalpaaDoorKt
set_option linter.unusedVariables false
set_option linter.unusedSimpArgs false
set_option linter.unusedSectionVars false
namespace Go.Proofs.YtbacejmdgfalpaaDoor
open Go Go.VM
set_option maxRecDepth 100000
set_option maxHeartbeats 8000000
theorem ent_l25_alive : VM.Enters Tryd.prog 9 := VM.Enters.mk Tryd.func9 rfl
theorem l25_ClassesChecks_cs (m : Mo) (hs : szL (moC m) ≤ 1048576) : CS Tryd.prog G0 3 [.agg (moC m)] (.d (.bool true)) none := by
  obtain ⟨B, hB⟩ := few_ex m
  have hf := l25_few_cs (G := G0) m B hB (mo_len hs)
  refine CS.of_VK Tryd.func3 rfl Tryd.ntmps3 rfl ?_
  simp
  refine ⟨lexOk.mk (by kernel_rfl), ?_⟩
  refine callK.mk ent_l25_few hf ?_
  cases B with
  | false =>
    simp
    refine callK.mk ent_l25_alive l25_alive_cs ?_
    simp
  | true =>
    have hok := few_ok hs (hB.1 rfl)
    simp
    refine callK.mk ent_classes_Check (classes_Check_cs m hok) ?_
    simp
    refine callK.mk ent_r25_Check (r25_Check_cs m hok) ?_
    simp
    refine callK.mk ent_l25_alive l25_alive_cs ?_
    simp
theorem classesChecks_all (xs : List D) (h : FitsAll Tryd.prog [29] xs) (hsz : szL xs ≤ 1048576) : CS Tryd.prog G0 3 xs (.d (.bool true)) none := by
  match xs, h with
  | [a], ⟨h1, _⟩ =>
    obtain ⟨m, rfl⟩ := fitV_mo h1
    simp only [szL, szD] at hsz
    exact l25_ClassesChecks_cs m (by omega)
end Go.Proofs.YtbacejmdgfalpaaDoor
