/- The examples' modules: the slice of instances is nobody else's; the walk at the level of worlds. No condition. -/
import Derived.Test.YtbacejmdgfalpaaDoorKl
set_option linter.unusedVariables false
set_option linter.unusedSimpArgs false
set_option linter.unusedSectionVars false
namespace Go.Proofs.YtbacejmdgfalpaaDoor
open Go Go.VM Go.RowKit
set_option maxRecDepth 100000
set_option maxHeartbeats 8000000
variable {G : GT}
abbrev rawBo : List D := [.int .i64 2, .str [], .nils, .nils, .int .i64 0, .str [], .int .i64 0, .nils, .nils]
abbrev rawTy (op : Int) (nm : Nm) (ar : D) : List D := [.int .i64 op, .str nm, ar, .nils, .int .i64 0, .str [], .int .i64 0, .nils, .nils]
abbrev rawCl : List D := [.str [69, 113], .str [97], .sl [.str [101, 113] :: rawTy 6 [] (.sl [tyD tA, tyD tA, rawBo])]]
abbrev rawIn (tt : List D) (nd df : D) : List D := [.str [69, 113]] ++ tt ++ [nd, df]
def rawMo (df : D) : List D := [.nils, .sl [rawCl], .sl [rawIn (tyD tI) .nils (.sl [dfC (dfX [101, 113])]), rawIn (tyD (tL tA)) (.sl [ndC ([69, 113], [97])]) df], .nils, .nils, .nils]
def SFin : St := ⟨[.ptr 0 0] ++ List.replicate 22 .undef, [(0, .cells ((rawMo (.sl [dfC (dfX [101, 113])])).map .d))], [(57, [.c 0 2])]⟩
theorem lists_sw : ∃ c, Tryd.f28.body = some c ∧ SW Tryd.prog G c (initSt [] 23) fun e s => e = .ret ∧ Weak s SFin := by
  have hA := l25_a_cs (G := G)
  have hI := l25_integer_cs (G := G)
  have hM := l25_method_cs (G := G) [101, 113]
  have hL := l25_list_cs (G := G) tA
  simp at hA hI hM hL
  refine ⟨_, rfl, ?_⟩
  refine SW.seqq (SW.vk ?_)
  simp [List.replicate]
  refine SW.seqq (SW.vk ?_)
  simp
  refine callK.mk ent_l25_a hA ?_
  simp
  refine callK.mk ent_l25_a hA ?_
  simp
  refine SW.seqq ?_
  refine region_build (m := 15) 21 2 rfl rfl (by kernel_rfl) (by simp [fakeOps]) (by decide) (by decide +kernel) ?_
  simp [fakeOps]
  refine callK.mk ent_l25_integer hI ?_
  simp
  refine callK.mk ent_l25_method hM ?_
  simp
  refine callK.mk ent_l25_a hA ?_
  simp
  refine callK.mk ent_l25_list hL ?_
  simp [range1]
  refine callK.mk ent_l25_method hM ?_
  simp [range1, range2]
  refine ⟨_, _, _, _, by simp, rfl, rfl, rfl, rfl, ⟨_, rfl⟩, ?_, rfl, ?_⟩
  · intro o ho base R μ a w hr
    obtain ⟨ao, n1, c1, hs1⟩ := V.sl_inv (hr.evalD (x := .tmp 11) rfl)
    obtain ⟨ao2, n2, c2, hs2⟩ := V.sl_inv (hr.evalD (x := .tmp 21) rfl)
    exact ⟨_, build_mo ho hs1 hs2, by rw [hs2]; rfl, by kernel_rfl⟩
  refine SW.vk ?_
  simp [SFin, List.replicate, rawMo, dfX, strs]
end Go.Proofs.YtbacejmdgfalpaaDoor
