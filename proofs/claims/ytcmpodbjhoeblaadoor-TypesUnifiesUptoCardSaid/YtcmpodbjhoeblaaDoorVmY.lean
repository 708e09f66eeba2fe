/- The abstract machine: a region of two chains of two operations each, order by order. No condition. -/
import Derived.Test.YtcmpodbjhoeblaaDoorVmW
set_option linter.unusedVariables false
set_option linter.unusedSimpArgs false
set_option linter.unusedSectionVars false
namespace Go.VM
open Go
set_option maxRecDepth 100000
set_option maxHeartbeats 8000000
section
variable {G : GT}
/-- A region whose order is drawn, order by order. -/
theorem SW_vany {P : Program} {id : Nat} {ops : Array Oper} {st : St} {Q : Exit → St → Prop} (hm : P.follows .mixedOrders = true) (h : VAny P G ops (fun s => Q .normal s) ops.size (Array.replicate ops.size false) st) : SW P G (.region id ops true) st Q := by
  intro base R μ a w hr
  obtain ⟨hr', hs'⟩ := hr.drew
  exact wp_region_any hm (VAny_ok ops.size _ st h base R μ a w.drew hr' fun s a' w' R' μ' q1 q2 q3 => ⟨s, R', μ', q1, q2, hs'.trans q3⟩)
abbrev lst (l : List Nat) : Array Bool := l.foldl (fun a i => a.setIfInBounds i true) (Array.replicate 4 false)
/-- Two chains of two operations each. -/
def four (ops : Array Oper) : Bool := decide (ops.size = 4) && (Region.ready .any ops (lst []) == [0, 1]) && (Region.ready .any ops (lst [0]) == [1, 2]) && (Region.ready .any ops (lst [1]) == [0, 3]) && (Region.ready .any ops (lst [0, 1]) == [2, 3]) && (Region.ready .any ops (lst [1, 0]) == [2, 3])
  && (Region.ready .any ops (lst [0, 2]) == [1]) && (Region.ready .any ops (lst [1, 3]) == [0]) && (Region.ready .any ops (lst [0, 1, 2]) == [3]) && (Region.ready .any ops (lst [0, 1, 3]) == [2]) && (Region.ready .any ops (lst [1, 0, 2]) == [3]) && (Region.ready .any ops (lst [1, 0, 3]) == [2]) && (Region.ready .any ops (lst [0, 2, 1]) == [3]) && (Region.ready .any ops (lst [1, 3, 0]) == [2])
  && (Region.ready .any ops (lst [0, 1, 2, 3]) == []) && (Region.ready .any ops (lst [0, 1, 3, 2]) == []) && (Region.ready .any ops (lst [1, 0, 2, 3]) == []) && (Region.ready .any ops (lst [1, 0, 3, 2]) == []) && (Region.ready .any ops (lst [0, 2, 1, 3]) == []) && (Region.ready .any ops (lst [1, 3, 0, 2]) == [])
theorem SW_four {P : Program} {id : Nat} {ops : Array Oper} {st : St} {Q : Exit → St → Prop} {o0 o1 o2 o3 : Oper} (hm : P.follows .mixedOrders = true) (hB : four ops = true) (h0 : ops[0]? = some o0) (h1 : ops[1]? = some o1) (h2 : ops[2]? = some o2) (h3 : ops[3]? = some o3)
    (h : let V := vOne P G true ops
      let F := fun s => Q .normal s
      V o0 (fun s => V o1 (fun s => V o2 (V o3 F) s ∧ V o3 (V o2 F) s) s ∧ V o2 (V o1 (V o3 F)) s) st ∧ V o1 (fun s => V o0 (fun s => V o2 (V o3 F) s ∧ V o3 (V o2 F) s) s ∧ V o3 (V o0 (V o2 F)) s) st) : SW P G (.region id ops true) st Q := by
  simp only [four, Bool.and_eq_true, decide_eq_true_eq, beq_iff_eq, List.foldl_cons, List.foldl_nil] at hB
  obtain ⟨⟨⟨⟨⟨⟨⟨⟨⟨⟨⟨⟨⟨⟨⟨⟨⟨⟨⟨hsz, r⟩, r0⟩, r1⟩, r01⟩, r10⟩, r02⟩, r13⟩, r012⟩, r013⟩, r102⟩, r103⟩, r021⟩, r130⟩, r0123⟩, r0132⟩, r1023⟩, r1032⟩, r0213⟩, r1302⟩ := hB
  refine SW_vany hm ?_
  rw [hsz]
  simp only [VAny, r, r0, r1, r01, r10, r02, r13, r012, r013, r102, r103, r021, r130, r0123, r0132, r1023, r1032, r0213, r1302, h0, h1, h2, h3, List.forall_mem_cons, List.not_mem_nil, false_imp_iff, implies_true, and_true, true_and, reduceCtorEq]
  exact h
/-- Two loads, the store of the first, and what comes last ('return a, n' of two that lie in memory). -/
def three (ops : Array Oper) : Bool := decide (ops.size = 4) && (Region.ready .any ops (lst []) == [0, 1]) && (Region.ready .any ops (lst [0]) == [1, 2]) && (Region.ready .any ops (lst [1]) == [0]) && (Region.ready .any ops (lst [0, 1]) == [2]) && (Region.ready .any ops (lst [1, 0]) == [2])
  && (Region.ready .any ops (lst [0, 2]) == [1]) && (Region.ready .any ops (lst [0, 1, 2]) == [3]) && (Region.ready .any ops (lst [1, 0, 2]) == [3]) && (Region.ready .any ops (lst [0, 2, 1]) == [3])
  && (Region.ready .any ops (lst [0, 1, 2, 3]) == []) && (Region.ready .any ops (lst [1, 0, 2, 3]) == []) && (Region.ready .any ops (lst [0, 2, 1, 3]) == [])
theorem SW_three {P : Program} {id : Nat} {ops : Array Oper} {st : St} {Q : Exit → St → Prop} {o0 o1 o2 o3 : Oper} (hm : P.follows .mixedOrders = true) (hB : three ops = true) (h0 : ops[0]? = some o0) (h1 : ops[1]? = some o1) (h2 : ops[2]? = some o2) (h3 : ops[3]? = some o3)
    (h : VK P G [.ops true ops [o0]] .normal st (fun _ s => VK P G [.ops true ops [o1, o2, o3]] .normal s (fun _ s => Q .normal s) ∧ VK P G [.ops true ops [o2, o1, o3]] .normal s (fun _ s => Q .normal s)) ∧ VK P G [.ops true ops [o1, o0, o2, o3]] .normal st (fun _ s => Q .normal s)) : SW P G (.region id ops true) st Q := by
  simp only [VK] at h
  simp only [three, Bool.and_eq_true, decide_eq_true_eq, beq_iff_eq, List.foldl_cons, List.foldl_nil] at hB
  obtain ⟨⟨⟨⟨⟨⟨⟨⟨⟨⟨⟨⟨hsz, r⟩, r0⟩, r1⟩, r01⟩, r10⟩, r02⟩, r012⟩, r102⟩, r021⟩, r0123⟩, r1023⟩, r0213⟩ := hB
  refine SW_vany hm ?_
  rw [hsz]
  simp only [VAny, r, r0, r1, r01, r10, r02, r012, r102, r021, r0123, r1023, r0213, h0, h1, h2, h3, List.forall_mem_cons, List.not_mem_nil, false_imp_iff, implies_true, and_true, true_and, reduceCtorEq]
  exact h
end
end Go.VM
