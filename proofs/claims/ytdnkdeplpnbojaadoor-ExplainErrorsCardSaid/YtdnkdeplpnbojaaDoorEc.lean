/- The statement ExplainErrors. No condition. -/
import Derived.Test.YtdnkdeplpnbojaaDoorEb
import Derived.Test.YtdnkdeplpnbojaaDoorNm
set_option linter.unusedVariables false
set_option linter.unusedSimpArgs false
set_option linter.unusedSectionVars false
namespace Go.Proofs.YtdnkdeplpnbojaaDoor
open Go Go.VM
set_option maxRecDepth 100000
set_option maxHeartbeats 8000000
theorem l53_ExplainErrors_cs (e : Int) (h : I64 e) : CS Tryd.prog G1 9 [.int .i64 e] (.d (.bool true)) none := by
  refine CS.of_VK Tryd.func9 rfl Tryd.ntmps9 rfl ?_
  simp
  refine callK.mk ent_e_Err (e_Err_cs G1_words G1_pow e h) ?_
  simp
  refine callK.mk ent_r53_Err (r53_Err_cs e h) ?_
  simp
  refine callK.mk ent_l53_alive l53_alive_cs ?_
  simp
theorem explainErrors_all (xs : List D) (h : FitsAll Tryd.prog [3] xs) : CS Tryd.prog G1 9 xs (.d (.bool true)) none := by
  match xs, h with
  | [x], ⟨h1, _⟩ =>
    obtain ⟨a, rfl, ha⟩ := fit_int h1
    exact l53_ExplainErrors_cs a ha
end Go.Proofs.YtdnkdeplpnbojaaDoor
