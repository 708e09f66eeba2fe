/- The statement ExplainFailures. No condition. -/
import Derived.Test.YtdnkdeplpnbojaaDoorEp
set_option linter.unusedVariables false
set_option linter.unusedSimpArgs false
set_option linter.unusedSectionVars false
namespace Go.Proofs.YtdnkdeplpnbojaaDoor
open Go Go.VM
set_option maxRecDepth 100000
set_option maxHeartbeats 8000000
theorem l53_ExplainFailures_cs (f : FL) (he : I64 f.err) (hI : ∀ c ∈ f.pt, I64 c.2) (hk : valsI f.args) (hx : szL (flC f) ≤ 1048576) : CS Tryd.prog G1 11 [.agg (flC f)] (.d (.bool true)) none := by
  have ih1 := l53_few_cs (G := G1) f hx
  have ih2 := e_Failure_cs G1_words G1_pow f he hI hk hx
  have ih3 := r53_Failure_cs G1_pow f he hI hk hx
  have hc : flC f = [.str f.df, .int .i64 f.err, .int .i64 f.gk, .str f.gd, .str f.gn, .sl (strs f.gp), .sl (coordsC f.pt), .sl (valsC f.args), .bool f.real] := rfl
  rw [hc] at ih1 ih2 ih3 ⊢
  refine CS.of_VK Tryd.func11 rfl Tryd.ntmps11 rfl ?_
  simp
  refine ⟨lexOk.mk (by kernel_rfl), ?_⟩
  refine callK.mk ent_l53_few ih1 ?_
  cases hb : fewB f
  · simp
    refine callK.mk ent_l53_alive l53_alive_cs ?_
    simp
  · simp
    refine callK.mk ent_e_Failure ih2 ?_
    simp
    refine callK.mk ent_r53_Failure ih3 ?_
    simp
    refine callK.mk ent_l53_alive l53_alive_cs ?_
    simp
end Go.Proofs.YtdnkdeplpnbojaaDoor
