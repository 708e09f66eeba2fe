/- Template: New. No condition. -/
import Derived.Test.YtmjpdmkgmlhfaaaDoorMh
set_option linter.unusedVariables false
set_option linter.unusedSimpArgs false
set_option linter.unusedSectionVars false
namespace Go.Proofs.YtmjpdmkgmlhfaaaDoor
open Go Go.VM
set_option maxRecDepth 100000
set_option maxHeartbeats 16000000
variable {G : GT}
theorem vis_all (hG : G 0 = some kwCells) (hP : G 1 = some powCells) (hadd : AddC G) (pre : Nm) (m : Mt) (hpre : pre.length ≤ 2000000) (hml : m.datas.length ≤ 1000000) : ∀ t : Ty, VisC G pre m t := by
  refine Ty.ind fun t ih => ?_
  exact new3_ch hG hP pre m hpre hml t fun h6 hne => new2_ch hG hP hadd pre m t h6 hne ih
theorem ent_template_New : VM.Enters Tryd.prog 12 := VM.Enters.mk Tryd.func12 rfl
theorem t_New_cs (hG : G 0 = some kwCells) (hP : G 1 = some powCells) (hadd : AddC G) (pre : Nm) (m : Mt) (hpre : pre.length ≤ 2000000) (hml : m.datas.length ≤ 1000000) (t : Ty) (sc : List Vr) (h1 : sc.length + nodT t ≤ 1000000) (h2 : cntT sortB (datN m) t ≤ 1000000) :
    CS Tryd.prog G 12 [.agg (mtC m), .agg (tyD t), .str pre, .sl (sc.map vrC)] (.tup [.agg (tyD (visT sortB pre (datN m) t sc []).1), .sl ((visT sortB pre (datN m) t sc []).2.map hoC)]) none := by
  have hv := vis_all hG hP hadd pre m hpre hml t sc [] h1 (by simpa using h2)
  refine CS.of_SWK Tryd.func12 rfl Tryd.ntmps12 rfl ?_
  refine SW.seqq (SW.vk ?_)
  simp [mtC]
  refine SW.seqq (SW.vk ?_)
  simp
  refine SW.seqq (SW.vk ?_)
  simp
  refine SW.seqq (SW.vk ?_)
  simp
  refine SW.seqq (SW.vk ?_)
  simp
  refine SW.seqq (SW.vk ?_)
  simp
  refine SW.seqq (SW.vk ?_)
  simp
  refine callHK.mk ent_new3 hv [(100000, 6), (100001, 10), (100002, 12), (100003, 13), (100004, 11), (100005, 4)] (by simp [nwH, mtC]) (by simp) (by simp [nwH, mtC]) (by simp; rfl) (by simp) ?_
  simp [nwH, mtC]
  refine SW.seqq (SW_three (by kernel_rfl) (by kernel_rfl) rfl rfl rfl rfl ⟨?_, ?_⟩)
  · simp
    refine SW.vk ?_
    simp
  · simp
    refine SW.vk ?_
    simp
end Go.Proofs.YtmjpdmkgmlhfaaaDoor
