/- The rules of the operations: what 'sorting.all' and 'sorting.ruleOf' give. No condition. -/
import Derived.Test.YthikbenglkfioaaDoorZ6
import Derived.Test.YthikbenglkfioaaDoorPb
set_option linter.unusedVariables false
set_option linter.unusedSimpArgs false
set_option linter.unusedSectionVars false
namespace Go.Proofs.YthikbenglkfioaaDoor
open Go Go.VM
set_option maxRecDepth 100000
set_option maxHeartbeats 8000000
variable {G : GT}
/-- A call where the order is fixed, of a function that gives a closure. -/
theorem callK_clo {P : Program} {ro qn : Bool} {ls : List (Option VM.Loc)} {f : FuncId} {ds : List D} {r : DV} {own : Option TypeId} {dst : Option Tmp} {all : Array Oper} {rest : List Oper} {k : List KI} {st : St} {Q : Exit → St → Prop} (he : VM.Enters P f) (hc : CS P G f ds r own)
    (h : VK P G (.ops false all rest :: k) .normal (finish st dst r (if qn then .no else ownOA own)) Q) : callK P G false ro qn f ds ls dst all rest k st Q := by
  unfold callK
  exact .inl ⟨r, own, ⟨he, hc⟩, fun h => (by cases h), h⟩
/-- The closure that 'all' makes, its text settled. -/
abbrev allV (s : Nm) : DV := .clo 145 [.ep [.str s]]
theorem ent_sorting_all : VM.Enters Tryd.prog 143 := VM.Enters.mk Tryd.func143 rfl
theorem sorting_all_cs (s : Nm) : CS Tryd.prog G 143 [.str s] (allV s) none := by
  refine CS.of_CH (CH.frz (k := 1) (cs := [.d (.str s)]) (ds := [.str s]) (r := .clo 145 [.ptr 1 0]) (H1 := [(1, .cells [.d (.str s)])]) (CH.of_VK Tryd.func143 rfl Tryd.ntmps143 rfl rfl ?_) rfl rfl rfl) rfl
  simp
def ruleR (op : Int) : DV × Nm :=
  if op = 6 ∨ op = 7 ∨ op = 8 ∨ op = 9 then (allV [73, 110, 116], [73, 110, 116]) else if op = 12 ∨ op = 13 then (allV [73, 110, 116], [66, 111, 111, 108])
  else if op = 10 ∨ op = 11 then (.fn 144, [66, 111, 111, 108]) else (allV [66, 111, 111, 108], [66, 111, 111, 108])
theorem ent_sorting_ruleOf : VM.Enters Tryd.prog 134 := VM.Enters.mk Tryd.func134 rfl
theorem sorting_ruleOf_cs (op : Int) : CS Tryd.prog G 134 [.int .i64 op] (.ag [(ruleR op).1, .d (.str (ruleR op).2)]) none := by
  refine CS.of_CH (CH.of_VK Tryd.func134 rfl Tryd.ntmps134 rfl rfl ?_) (by unfold ruleR; split <;> (try split) <;> (try split) <;> rfl)
  by_cases h6 : op = 6
  · simp [h6]
    refine callK_clo ent_sorting_all (sorting_all_cs _) ?_
    simp [ruleR, h6]
  by_cases h7 : op = 7
  · simp [h7]
    refine callK_clo ent_sorting_all (sorting_all_cs _) ?_
    simp [ruleR, h7]
  by_cases h8 : op = 8
  · simp [h8]
    refine callK_clo ent_sorting_all (sorting_all_cs _) ?_
    simp [ruleR, h8]
  by_cases h9 : op = 9
  · simp [h9]
    refine callK_clo ent_sorting_all (sorting_all_cs _) ?_
    simp [ruleR, h9]
  by_cases h12 : op = 12
  · simp [h12]
    refine callK_clo ent_sorting_all (sorting_all_cs _) ?_
    simp [ruleR, h12]
  by_cases h13 : op = 13
  · simp [h13]
    refine callK_clo ent_sorting_all (sorting_all_cs _) ?_
    simp [ruleR, h13]
  by_cases h10 : op = 10
  · simp [h10, ruleR]
  by_cases h11 : op = 11
  · simp [h11, ruleR]
  · simp [h6, h7, h8, h9, h10, h11, h12, h13]
    refine callK_clo ent_sorting_all (sorting_all_cs _) ?_
    simp [ruleR, h6, h7, h8, h9, h10, h11, h12, h13]
end Go.Proofs.YthikbenglkfioaaDoor
