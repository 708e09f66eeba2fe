/- The statement NumAdds. No condition. -/
import Derived.Test.YtdnkdeplpnbojaaDoorNm
import Derived.Test.YtdnkdeplpnbojaaDoorNg
set_option linter.unusedVariables false
set_option linter.unusedSimpArgs false
set_option linter.unusedSectionVars false
namespace Go.Proofs.YtdnkdeplpnbojaaDoor
open Go Go.VM
set_option maxRecDepth 100000
set_option maxHeartbeats 8000000
theorem l1_NumAdds_cs (a b : Int) : CS Tryd.prog G0 7 [.int .i64 a, .int .i64 b] (.d (.bool true)) none := by
  refine CS.of_VK Tryd.func7 rfl Tryd.ntmps7 rfl ?_
  simp
  refine callK.mk ent_m_Add (m_Add_cs _ _) ?_
  simp
  refine callK.mk ent_r1_Add (r1_Add_cs _ _) ?_
  simp
  refine callK.mk ent_m_Sub (m_Sub_cs _ _) ?_
  simp
  refine callK.mk ent_r1_Sub (r1_Sub_cs _ _) ?_
  simp
  refine callK.mk ent_m_Mul (m_Mul_cs _ _) ?_
  simp
  refine callK.mk ent_r1_Mul (r1_Mul_cs _ _) ?_
  simp
  refine callK.mk ent_m_In (m_In_cs _) ?_
  simp
  refine callK.mk ent_r1_In (r1_In_cs _) ?_
  simp
  refine callK.mk ent_l1_alive (l1_alive_cs ) ?_
  simp
theorem numAdds_all (xs : List D) (h : FitsAll Tryd.prog [3, 3] xs) : CS Tryd.prog G0 7 xs (.d (.bool true)) none := by
  match xs, h with
  | [x, y], ⟨h1, h2, _⟩ =>
    obtain ⟨a, rfl, ha⟩ := fit_int h1
    obtain ⟨b, rfl, hb⟩ := fit_int h2
    exact l1_NumAdds_cs a b
end Go.Proofs.YtdnkdeplpnbojaaDoor
