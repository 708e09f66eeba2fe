/- The statement NumDivides. No condition. -/
import Derived.Test.YtdnkdeplpnbojaaDoorNm
import Derived.Test.YtdnkdeplpnbojaaDoorNg
set_option linter.unusedVariables false
set_option linter.unusedSimpArgs false
set_option linter.unusedSectionVars false
namespace Go.Proofs.YtdnkdeplpnbojaaDoor
open Go Go.VM
set_option maxRecDepth 100000
set_option maxHeartbeats 8000000
theorem l1_NumDivides_cs (a b : Int) (ha : I64 a) (hb : I64 b) : CS Tryd.prog G0 3 [.int .i64 a, .int .i64 b] (.d (.bool true)) none := by
  refine CS.of_VK Tryd.func3 rfl Tryd.ntmps3 rfl ?_
  simp
  refine callK.mk ent_m_Div (m_Div_cs _ _) ?_
  simp
  refine callK.mk ent_r1_Div (r1_Div_cs _ _) ?_
  simp
  refine callK.mk ent_m_Mod (m_Mod_cs _ _) ?_
  simp
  refine callK.mk ent_r1_Mod (r1_Mod_cs _ _) ?_
  simp
  refine callK.mk ent_m_Gcd (m_Gcd_cs _ _ ha hb) ?_
  simp
  refine callK.mk ent_r1_Gcd (r1_Gcd_cs _ _ ha hb) ?_
  simp
  refine callK.mk ent_l1_alive (l1_alive_cs ) ?_
  simp
theorem numDivides_all (xs : List D) (h : FitsAll Tryd.prog [3, 3] xs) : CS Tryd.prog G0 3 xs (.d (.bool true)) none := by
  match xs, h with
  | [x, y], ⟨h1, h2, _⟩ =>
    obtain ⟨a, rfl, ha⟩ := fit_int h1
    obtain ⟨b, rfl, hb⟩ := fit_int h2
    exact l1_NumDivides_cs a b ha hb
end Go.Proofs.YtdnkdeplpnbojaaDoor
