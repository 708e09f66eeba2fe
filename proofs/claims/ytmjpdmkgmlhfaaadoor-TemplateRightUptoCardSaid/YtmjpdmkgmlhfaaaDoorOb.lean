/- Template: the examples. No condition. -/
import Derived.Test.YtmjpdmkgmlhfaaaDoorOa
import Derived.Test.YtmjpdmkgmlhfaaaDoorMn
set_option linter.unusedVariables false
set_option linter.unusedSimpArgs false
set_option linter.unusedSectionVars false
namespace Go.Proofs.YtmjpdmkgmlhfaaaDoor
open Go Go.VM
set_option maxRecDepth 100000
set_option maxHeartbeats 16000000
variable {G : GT}
def G0 : GT := fun g => if g = 1 then some powCells else if g = 0 then some kwCells else none
theorem G0_pow : G0 1 = some powCells := rfl
theorem G0_kw : G0 0 = some kwCells := rfl
abbrev tyI : Ty := ⟨1, [], [], [], zeroP, []⟩
abbrev nI : Nm := [73, 110, 116]
abbrev nB : Nm := [66, 111, 111, 108]
abbrev m00 : Mt := ⟨[], .nils, .nils, .nils, .nils, .nils⟩
abbrev x00 : Dx := ⟨[111, 110, 101], [], .int .i64 1, .str [], .int .i64 1, .nils, .nils, .nils, .nils, .int .i64 0, false, ⟨[], [], [], [], tyI, []⟩⟩
theorem range3 : List.range 3 = [0, 1, 2] := rfl
theorem range4 : List.range 4 = [0, 1, 2, 3] := rfl
attribute [simp] range3 range4
theorem dd0 : Lib.decDigits 0 = [48] := dd_small (by omega)
theorem dd1 : Lib.decDigits 1 = [49] := dd_small (by omega)
theorem aw1 : visT sortB [107, 46, 48] (datN m00) tyI [([120], nI)] [] = (⟨1, [], [], [], holP [107, 46, 48, 46, 48] [(vN, nI), ([120], nI)], []⟩, [([107, 46, 48, 46, 48], [(vN, nI), ([120], nI)])]) := by
  simp [visT, logT, nextP, nextH, holN, holV, dataT, plainTs, dd0]
theorem aw2 : visT sortB [102] (datN m00) ⟨6, [], [tyI, ⟨3, [], [], [], zeroP, []⟩, ⟨2, [], [], [], zeroP, []⟩], [], zeroP, []⟩ [] [] = (⟨6, [], [⟨1, [], [], [], holP [102, 46, 48] [(vN, nI)], []⟩, ⟨3, [], [], [], zeroP, []⟩, ⟨2, [], [], [], holP [102, 46, 49] [(vN, nB), ([120], nI)], []⟩], [[120], [120, 49]], zeroP, []⟩, [([102, 46, 48], [(vN, nI)]), ([102, 46, 49], [(vN, nB), ([120], nI)])]) := by
  simp [visT, funT, logT, nextP, nextH, holN, holV, dataT, plainTs, addVr, freshN, freshF, xN, vN, dd0, dd1]
theorem aw3 : sigM m00 x00 = (sx0 ⟨1, [], [], [], holP [111, 110, 101, 46, 48] [(vN, nI)], []⟩, [([111, 110, 101, 46, 48], [(vN, nI)])]) := by
  simp [sigM, visT, logT, nextP, nextH, holN, holV, dataT, plainTs, dd0]
theorem aw4 : scopN [([99], [67, 101, 108, 108]), ([120], nI), ([108], [76, 105, 115, 116]), ([120], nB)] = [([108], [76, 105, 115, 116]), ([120], nB)] := by kernel_rfl
theorem ent_l37_ints : VM.Enters Tryd.prog 35 := VM.Enters.mk Tryd.func35 rfl
theorem l37_ints_cs : CS Tryd.prog G 35 [] (.d (.agg (tyD tyI))) none := by
  refine CS.of_VK Tryd.func35 rfl Tryd.ntmps35 rfl ?_
  simp [zeroP]
theorem ent_l37_function : VM.Enters Tryd.prog 36 := VM.Enters.mk Tryd.func36 rfl
theorem l37_function_cs (l : List Ty) : CS Tryd.prog G 36 [.sl (l.map tyC)] (.d (.agg (tyD ⟨6, [], l, [], zeroP, []⟩))) none := by
  refine CS.of_VK Tryd.func36 rfl Tryd.ntmps36 rfl ?_
  simp [zeroP]
theorem ent_l37_awake : VM.Enters Tryd.prog 11 := VM.Enters.mk Tryd.func11 rfl
theorem l37_awake_cs : CS Tryd.prog G0 11 [] (.d (.bool true)) none := by
  have h1 := t_New_cs G0_kw G0_pow (added_ok (G := G0)) [107, 46, 48] m00 (by simp) (by simp) tyI [([120], nI)] (by simp [nodT, nodTs]) (by simp [cntT, logT])
  have h2 := t_New_cs G0_kw G0_pow (added_ok (G := G0)) [102] m00 (by simp) (by simp) ⟨6, [], [tyI, ⟨3, [], [], [], zeroP, []⟩, ⟨2, [], [], [], zeroP, []⟩], [], zeroP, []⟩ [] (by simp [nodT, nodTs]) (by simp [cntT, cntTs, logT])
  have h3 := t_Sig_cs G0_kw G0_pow m00 x00 (by simp) (by simp) (by simp [nodT, nodTs]) (by simp [cntT, logT])
  have h4 := t_Scope_cs G0_kw [([99], [67, 101, 108, 108]), ([120], nI), ([108], [76, 105, 115, 116]), ([120], nB)] (by simp)
  have h5 := l37_function_cs (G := G0) [tyI, ⟨3, [], [], [], zeroP, []⟩, ⟨2, [], [], [], zeroP, []⟩]
  rw [aw1] at h1
  rw [aw2] at h2
  rw [aw3] at h3
  rw [aw4] at h4
  refine CS.of_VK Tryd.func11 rfl Tryd.ntmps11 rfl ?_
  simp
  refine callK.mk ent_l37_ints l37_ints_cs ?_
  simp
  refine callK.mk ent_template_New (CS.args h1 (by simp [mtC])) ?_
  simp
  refine callK.mk ent_l37_ints l37_ints_cs ?_
  simp
  refine callK.mk ent_l37_function (CS.args h5 (by simp [zeroP])) ?_
  simp
  refine callK.mk ent_template_New (CS.args h2 (by simp [mtC, zeroP])) ?_
  simp
  refine callK.mk ent_l37_ints l37_ints_cs ?_
  simp
  refine callK.mk ent_template_Sig (CS.args h3 (by simp [mtC, dxC, zeroP])) ?_
  simp (maxSteps := 5000000) [sxC, sx0, holP, vN, zeroP]
  refine callK.mk ent_template_Scope (by simpa using h4) ?_
  simp (maxSteps := 5000000) [holP, vN, zeroP]
end Go.Proofs.YtmjpdmkgmlhfaaaDoor
