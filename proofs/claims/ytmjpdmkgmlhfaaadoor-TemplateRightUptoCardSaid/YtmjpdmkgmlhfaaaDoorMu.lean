/- Template, the reference: New. No condition. -/
import Derived.Test.YtmjpdmkgmlhfaaaDoorMs
import Derived.Test.YtmjpdmkgmlhfaaaDoorMi
import Derived.Test.YtmjpdmkgmlhfaaaDoorMp
set_option linter.unusedVariables false
set_option linter.unusedSimpArgs false
set_option linter.unusedSectionVars false
namespace Go.Proofs.YtmjpdmkgmlhfaaaDoor
open Go Go.VM
set_option maxRecDepth 100000
set_option maxHeartbeats 16000000
variable {G : GT}
theorem visR_all (pre : Nm) (m : Mt) (hpre : pre.length ≤ 2000000) (hml : m.datas.length ≤ 1000000) : ∀ t : Ty, VisR G pre m t := by
  refine Ty.ind fun t ih => ?_
  exact typ_ch pre m hpre hml t fun h6 => function_ch pre m t h6 ih
theorem ent_r37_New : VM.Enters Tryd.prog 13 := VM.Enters.mk Tryd.func13 rfl
theorem r37_New_cs (pre : Nm) (m : Mt) (hpre : pre.length ≤ 2000000) (hml : m.datas.length ≤ 1000000) (t : Ty) (sc : List Vr) (h1 : sc.length + nodT t ≤ 1000000) (h2 : cntT sortB (datN m) t ≤ 1000000) :
    CS Tryd.prog G 13 [.agg (mtC m), .agg (tyD t), .str pre, .sl (sc.map vrC)] (.tup [.agg (tyD (visT sortB pre (datN m) t sc []).1), .sl ((visT sortB pre (datN m) t sc []).2.map hoC)]) none := by
  have hv := visR_all (G := G) pre m hpre hml t sc [] h1 (by simpa using h2)
  refine CS.of_SWK Tryd.func13 rfl Tryd.ntmps13 rfl ?_
  refine SW.seqq (SW.vk ?_)
  simp [mtC]
  refine SW.seqq (SW.vk ?_)
  simp
  refine SW.seqq (SW.vk ?_)
  simp
  refine callHK.mk ent_typ hv [(100000, 15)] (by simp [mkH, mtC]) (by simp) (by simp [mkH, mtC]) (by simp; rfl) (by simp) ?_
  simp [mkH, mtC]
  refine SW.seqq (SW_imp 5 [0] (.op 1 (.op 2 (.op 3 (.op 4 (.call [6] .none) (.call [4, 6] .none)) (.call [3, 4, 6] .none)) (.call [2, 3, 4, 6] .none)) (.call [1, 2, 3, 4, 6] .none)) (by kernel_rfl) (by kernel_rfl) ?_)
  simp
  refine SW.vk ?_
  simp
end Go.Proofs.YtmjpdmkgmlhfaaaDoor
