/- Bounds: trees, what instances are; the walks of instances. No condition. -/
import Derived.Test.YthikbenglkfioaaDoorVmQ
import Derived.Test.YthikbenglkfioaaDoorZ6
import Derived.Test.YthikbenglkfioaaDoorPb
import Derived.Test.YthikbenglkfioaaDoorPd
set_option linter.unusedVariables false
set_option linter.unusedSimpArgs false
set_option linter.unusedSectionVars false
namespace Go.Proofs.YthikbenglkfioaaDoor
open Go Go.VM
set_option maxRecDepth 100000
set_option maxHeartbeats 8000000
variable {G : GT}
/-- A bound. -/
structure Bd where
  name : Nm
  vars : List Vr
  hyp : Pr
  goal : Pr
abbrev bdC (b : Bd) : List D := [.str b.name, .sl (b.vars.map vrC), .int .i64 b.hyp.op, .str b.hyp.name, .int .i64 b.hyp.n, .sl (b.hyp.kids.map prC), .int .i64 b.goal.op, .str b.goal.name, .int .i64 b.goal.n, .sl (b.goal.kids.map prC)]
abbrev bdO (b : Bd) : AObj := .cells [.d (.str b.name), .d (.sl (b.vars.map vrC)), .d (.int .i64 b.hyp.op), .d (.str b.hyp.name), .d (.int .i64 b.hyp.n), .d (.sl (b.hyp.kids.map prC)), .d (.int .i64 b.goal.op), .d (.str b.goal.name), .d (.int .i64 b.goal.n), .d (.sl (b.goal.kids.map prC))]
abbrev bdN (b : Bd) : List Nm := b.vars.map (·.1)
def wholeP (p : Pr) : Pr := if p = zerP then truP else p
def instP (b : Bd) (args : List Pr) : Pr := ⟨17, [], 0, [substP (bdN b) args (wholeP b.hyp), substP (bdN b) args (wholeP b.goal)]⟩
def instR (b : Bd) (args : List Pr) : Pr × Int := if args.length = b.vars.length then (instP b args, 0) else (zerP, 13)
theorem whole_nod (p : Pr) : nodP (wholeP p) ≤ nodP p := by
  unfold wholeP
  split
  · rename_i h
    subst h
    simp [truP, zerP, nodP, nodPs]
  · exact Nat.le_refl _
def libB : CallF := fun _ _ => none
theorem libB_ok : CallOk Tryd.prog G libB := fun _ _ _ _ h => by cases h
theorem ent_pred_And : VM.Enters Tryd.prog 98 := VM.Enters.mk Tryd.func98 rfl
theorem pred_And_nil : CS Tryd.prog G 98 [.nils] (.d (.agg (prD truP))) none := CS.res (evalF_ok (G := G) libB_ok 20 98 [.nils] (.d (.agg [.int .i64 2, .str [], .int .i64 1, .nils])) none (by kernel_rfl)).2 (by simp [truP])
theorem ent_bounds_whole : VM.Enters Tryd.prog 71 := VM.Enters.mk Tryd.func71 rfl
theorem bounds_whole_cs (p : Pr) (h : nodP p ≤ 900000000) : CS Tryd.prog G 71 [.agg (prD p)] (.d (.agg (prD (wholeP p)))) none := by
  have e1 := pred_Same_cs (G := G) p zerP h
  rw [samP_dec] at e1
  refine CS.of_VK Tryd.func71 rfl Tryd.ntmps71 rfl ?_
  simp
  refine callK.mk ent_pred_Same (CS.args e1 (by simp [zerP])) ?_
  by_cases hz : p = zerP
  · simp [hz]
    refine callK.mk ent_pred_And pred_And_nil ?_
    simp [wholeP, truP]
  · simp [hz, wholeP]
theorem ent_bounds_variables : VM.Enters Tryd.prog 43 := VM.Enters.mk Tryd.func43 rfl
theorem bounds_variables_cs (b : Bd) (h : b.vars.length ≤ 900000000) : CS Tryd.prog G 43 [.agg (bdC b)] (.d (.sl (strs (bdN b)))) none := by
  refine CS.of_VK Tryd.func43 rfl Tryd.ntmps43 rfl ?_
  simp
  refine SW.loopF (ι := { i : Nat // i ≤ b.vars.length }) (fun i => [(3, .d (.sl (strs ((bdN b).take i.1)))), (9, .d (.int .i64 i.1))]) (fun _ => [(1, bdO b)]) (fun _ => [(9, [.t 3])]) (fun i => b.vars.length - i.1) ⟨0, by simp⟩ (by simp) ?_
  rintro ⟨i, hi⟩
  by_cases hlt : i < b.vars.length
  · have hg := vrs_get hlt
    have hw := wrap64s (show i < 9223372036854775807 by omega)
    have hsz : (min i b.vars.length + 1) * 17 ≤ 140737488355328 := by omega
    have ht : (bdN b).take (i + 1) = (bdN b).take i ++ [b.vars[i].1] := by
      rw [List.take_succ_eq_append_getElem (by simpa using hlt)]
      simp
    simp [hlt, hg, hsz]
    exact Again.mk ⟨i + 1, hlt⟩ (by simp [hw, ht, strs]) (by simp; omega)
  · have : i = b.vars.length := by omega
    subst this
    have ht : (bdN b).take b.vars.length = bdN b := List.take_of_length_le (by simp)
    simp [ht]
theorem ent_bounds_Instance : VM.Enters Tryd.prog 39 := VM.Enters.mk Tryd.func39 rfl
theorem bounds_Instance_cs (b : Bd) (args : List Pr) (h1 : b.vars.length ≤ 900000000) (h2 : args.length ≤ 900000000) (h3 : nodP b.hyp ≤ 900000000) (h4 : nodP b.goal ≤ 900000000) (h5 : ∀ u ∈ args, nodP u ≤ 900000000) :
    CS Tryd.prog G 39 [.agg (bdC b), .sl (args.map prC)] (.tup [.agg (prD (instR b args).1), .int .i64 (instR b args).2]) none := by
  have hw1 := whole_nod b.hyp
  have hw2 := whole_nod b.goal
  have hva := bounds_variables_cs (G := G) b h1
  have hs1 := pred_SubstAll_cs (G := G) (bdN b) args (by simpa using h1) h2 h5 (wholeP b.hyp) (by omega)
  have hs2 := pred_SubstAll_cs (G := G) (bdN b) args (by simpa using h1) h2 h5 (wholeP b.goal) (by omega)
  refine CS.of_SWK Tryd.func39 rfl Tryd.ntmps39 rfl ?_
  refine SW.seqq (SW.vk ?_)
  simp
  refine SW.seqq (SW.vk ?_)
  simp
  by_cases hl : args.length = b.vars.length
  rotate_left
  · have hl' : ¬ ((args.length : Int) = (b.vars.length : Int)) := by omega
    simp [hl, hl', instR, zerP]
  simp [hl]
  refine SW_makecopy (e := 31) (es := args.map prC) rfl (by kernel_rfl) rfl (by simp) (by simp; omega) (by simp) (by decide) ?_
  refine SW.vk ?_
  simp
  refine callK.mk ent_bounds_variables hva ?_
  simp
  refine ⟨lexOk.mk (by kernel_rfl), ?_⟩
  refine callK.mk ent_bounds_whole (bounds_whole_cs b.hyp h3) ?_
  simp
  refine callK.mk ent_pred_SubstAll hs1 ?_
  simp
  refine callK.mk ent_bounds_whole (bounds_whole_cs b.goal h4) ?_
  simp
  refine callK.mk ent_pred_SubstAll hs2 ?_
  simp [instR, hl, instP, show List.range 2 = [0, 1] from rfl]
end Go.Proofs.YthikbenglkfioaaDoor
