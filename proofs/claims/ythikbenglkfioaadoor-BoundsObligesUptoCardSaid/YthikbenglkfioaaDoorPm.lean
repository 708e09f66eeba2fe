/- Predicates: the error of a node; the walk of the program's check. No condition. -/
import Derived.Test.YthikbenglkfioaaDoorPl
import Derived.Test.YthikbenglkfioaaDoorPc
import Derived.Test.YthikbenglkfioaaDoorZ7
set_option linter.unusedVariables false
set_option linter.unusedSimpArgs false
set_option linter.unusedSectionVars false
namespace Go.Proofs.YthikbenglkfioaaDoor
open Go Go.VM
set_option maxRecDepth 100000
set_option maxHeartbeats 8000000
variable {G : GT}
def namB (op : Int) : Bool := decide (op = 3) || (decide (op = 4) || decide (op = 5))
def leastK (op : Int) : Int := if op = 1 ∨ op = 2 ∨ op = 3 then 0 else if op = 4 ∨ op = 5 then 1 else if op = 9 ∨ op = 14 then 1 else 2
def mostK (op : Int) : Int := if op = 1 ∨ op = 2 ∨ op = 3 then 0 else if op = 4 ∨ op = 5 then 24 else if op = 9 ∨ op = 14 then 1 else 2
def headK (l : List Pr) : Int := match l with
  | [] => 1
  | k :: _ => k.op
/-- A name that a node may have although it is none. -/
def freeN (op : Int) (nm : Nm) : Bool := (decide (op = 3) && decide (nm = [118])) || (decide (op = 4) && (decide (nm = [116, 97, 103]) || decide (nm = [118, 97, 108])))
def argE (op : Int) (nm : Nm) (n : Int) (len : Int) : Bool := (!namB op && !decide (nm = [])) || (!decide (op = 1) && !decide (op = 2) && !decide (n = 0)) || decide (len < leastK op) || decide (mostK op < len)
def rangeE (op n : Int) : Bool := (decide (op = 1) && !inB n) || (decide (op = 2) && !decide (n = 0) && !decide (n = 1))
/-- The error of a node. -/
def nodeE (p : Pr) : Int :=
  if p.op < 1 ∨ 18 < p.op then 1
  else if argE p.op p.name p.n p.kids.length then 1
  else if rangeE p.op p.n then 2
  else if namB p.op && !coreB p.name && !freeN p.op p.name then 3
  else if p.op = 8 ∧ headK p.kids ≠ 1 then 6
  else 0
theorem ent_pred_named : VM.Enters Tryd.prog 138 := VM.Enters.mk Tryd.func138 rfl
theorem pred_named_cs (op : Int) : CS Tryd.prog G 138 [.int .i64 op] (.d (.bool (namB op))) none := by
  refine CS.of_VK Tryd.func138 rfl Tryd.ntmps138 rfl ?_
  by_cases h3 : op = 3
  · simp [h3, namB]
  · by_cases h4 : op = 4
    · simp [h4, namB]
    · simp [h3, h4, namB]
theorem ent_pred_kids : VM.Enters Tryd.prog 137 := VM.Enters.mk Tryd.func137 rfl
theorem pred_kids_cs (op : Int) : CS Tryd.prog G 137 [.int .i64 op] (.tup [.int .i64 (leastK op), .int .i64 (mostK op)]) none := by
  refine CS.of_VK Tryd.func137 rfl Tryd.ntmps137 rfl ?_
  by_cases h1 : op = 1
  · simp [h1, leastK, mostK]
  by_cases h2 : op = 2
  · simp [h2, leastK, mostK]
  by_cases h3 : op = 3
  · simp [h3, leastK, mostK]
  by_cases h4 : op = 4
  · simp [h4, leastK, mostK]
  by_cases h5 : op = 5
  · simp [h5, leastK, mostK]
  by_cases h9 : op = 9
  · simp [h9, leastK, mostK]
  by_cases h14 : op = 14
  · simp [h14, leastK, mostK]
  · simp [h1, h2, h3, h4, h5, h9, h14, leastK, mostK]
theorem named_ops {op : Int} (h : namB op = true) : op = 3 ∨ op = 4 ∨ op = 5 := by simpa [namB] using h
theorem named_not {op : Int} (h : namB op = false) : ¬ op = 3 ∧ ¬ op = 4 ∧ ¬ op = 5 := by simpa [namB] using h
theorem ent_pred_node : VM.Enters Tryd.prog 130 := VM.Enters.mk Tryd.func130 rfl
theorem pred_node_cs (hG : G 0 = some kwCells) (p : Pr) (hlen : p.kids.length ≤ 900000000) : CS Tryd.prog G 130 [.agg (prD p)] (.d (.int .i64 (nodeE p))) none := by
  obtain ⟨op, nm, n, l⟩ := p
  simp only at hlen
  have hm : nodeE ⟨op, nm, n, l⟩ = if op < 1 ∨ 18 < op then 1 else if argE op nm n l.length then 1 else if rangeE op n then 2 else if namB op && !coreB nm && !freeN op nm then 3 else if op = 8 ∧ headK l ≠ 1 then 6 else 0 := rfl
  refine CS.of_VK Tryd.func130 rfl Tryd.ntmps130 rfl ?_
  by_cases a1 : op < 1
  · simp [a1] at hm
    simp [a1, hm]
  by_cases a2 : 18 < op
  · simp [a2] at hm
    simp [a1, a2, hm]
  rw [if_neg (by omega)] at hm
  simp [a1, a2]
  refine callK.mk ent_pred_kids (pred_kids_cs op) ?_
  simp
  refine callK.mk ent_pred_named (pred_named_cs op) ?_
  cases hn : namB op
  · obtain ⟨n3, n4, n5⟩ := named_not hn
    by_cases b1 : nm = []
    rotate_left
    · have b1' : nm.isEmpty = false := by cases nm <;> simp at b1 ⊢
      simp [argE, hn, b1] at hm
      simp (maxSteps := 4000000) [hn, b1, b1', hm]
    subst b1
    by_cases o1 : op = 1
    · subst o1
      have el : leastK 1 = 0 := rfl
      have em : mostK 1 = 0 := rfl
      by_cases k0 : l = []
      rotate_left
      · have kl : 0 < l.length := List.length_pos_iff.2 k0
        have kl' : ¬ ((l.length : Int) < 0) := by omega
        simp [argE, hn, el, em, kl, kl'] at hm
        simp (maxSteps := 4000000) [hn, el, em, kl, kl', hm]
      subst k0
      simp [argE, hn, el, em] at hm
      simp (maxSteps := 4000000) [hn, el, em]
      refine callK.mk ent_m_In (m_In_cs n) ?_
      cases hi : inB n
      · simp [rangeE, hi] at hm
        simp [hm]
      · simp [rangeE, hi] at hm
        simp
        refine callK.mk ent_pred_named (pred_named_cs 1) ?_
        simp (maxSteps := 4000000) [hn, hm]
    by_cases o2 : op = 2
    · subst o2
      have el : leastK 2 = 0 := rfl
      have em : mostK 2 = 0 := rfl
      by_cases k0 : l = []
      rotate_left
      · have kl : 0 < l.length := List.length_pos_iff.2 k0
        have kl' : ¬ ((l.length : Int) < 0) := by omega
        simp [argE, hn, el, em, kl, kl'] at hm
        simp (maxSteps := 4000000) [hn, el, em, kl, kl', hm]
      subst k0
      simp [argE, hn, el, em] at hm
      by_cases c0 : n = 0
      · simp [rangeE, c0] at hm
        simp (maxSteps := 4000000) [hn, el, em, c0]
        refine callK.mk ent_pred_named (pred_named_cs 2) ?_
        simp (maxSteps := 4000000) [hn, hm]
      · by_cases c1 : n = 1
        · simp [rangeE, c1] at hm
          simp (maxSteps := 4000000) [hn, el, em, c1]
          refine callK.mk ent_pred_named (pred_named_cs 2) ?_
          simp (maxSteps := 4000000) [hn, hm]
        · simp [rangeE, c0, c1] at hm
          simp (maxSteps := 4000000) [hn, el, em, c0, c1, hm]
    by_cases c0 : n = 0
    rotate_left
    · simp [argE, hn, o1, o2, c0] at hm
      simp (maxSteps := 4000000) [hn, o1, o2, c0, hm]
    subst c0
    by_cases d1 : (l.length : Int) < leastK op
    · simp [argE, hn, d1] at hm
      simp (maxSteps := 4000000) [hn, o1, o2, d1, hm]
    by_cases d2 : mostK op < (l.length : Int)
    · simp [argE, hn, d1, d2] at hm
      simp (maxSteps := 4000000) [hn, o1, o2, d1, d2, hm]
    simp [argE, rangeE, hn, o1, o2, d1, d2] at hm
    simp (maxSteps := 4000000) [hn, o1, o2, d1, d2]
    refine callK.mk ent_pred_named (pred_named_cs op) ?_
    by_cases o8 : op = 8
    · subst o8
      have el : leastK 8 = 2 := rfl
      match l, d1 with
      | [], d1 => exact absurd (by rw [el]; simp) d1
      | k :: r, d1 =>
        by_cases e1 : k.op = 1
        · simp [headK, e1] at hm
          simp (maxSteps := 4000000) [hn, e1, hm]
        · simp [headK, e1] at hm
          simp (maxSteps := 4000000) [hn, e1, hm]
    · simp [o8] at hm
      simp (maxSteps := 4000000) [hn, o8, hm]
  · have ho := named_ops hn
    have o1 : ¬ op = 1 := by omega
    have o2 : ¬ op = 2 := by omega
    have o8 : ¬ op = 8 := by omega
    by_cases c0 : n = 0
    rotate_left
    · simp [argE, hn, o1, o2, c0] at hm
      simp (maxSteps := 4000000) [hn, o1, o2, c0, hm]
    subst c0
    by_cases d1 : (l.length : Int) < leastK op
    · simp [argE, hn, d1] at hm
      simp (maxSteps := 4000000) [hn, o1, o2, d1, hm]
    by_cases d2 : mostK op < (l.length : Int)
    · simp [argE, hn, d1, d2] at hm
      simp (maxSteps := 4000000) [hn, o1, o2, d1, d2, hm]
    simp [argE, rangeE, hn, o1, o2, o8, d1, d2] at hm
    simp (maxSteps := 4000000) [hn, o1, o2, d1, d2]
    refine callK.mk ent_pred_named (pred_named_cs op) ?_
    simp [hn]
    refine callK.mk ent_n_Core (n_Core_cs hG nm) ?_
    cases hc : coreB nm
    rotate_left
    · simp [hc] at hm
      simp [errName, o8, hm]
    simp [hc] at hm
    simp [errName]
    by_cases o3 : op = 3
    · subst o3
      by_cases v1 : nm = [118]
      · simp [freeN, v1] at hm
        simp [v1, hm]
      · simp [freeN, v1] at hm
        simp [v1, hm]
    by_cases o4 : op = 4
    · subst o4
      by_cases v1 : nm = [116, 97, 103]
      · simp [freeN, v1] at hm
        simp [v1, hm]
      · by_cases v2 : nm = [118, 97, 108]
        · simp [freeN, v2] at hm
          simp [v2, hm]
        · simp [freeN, v1, v2] at hm
          simp [v1, v2, hm]
    · simp [freeN, o3, o4] at hm
      simp [o3, o4, hm]
/-! ### Sizes -/
theorem ent_pred_Nodes : VM.Enters Tryd.prog 127 := VM.Enters.mk Tryd.func127 rfl
theorem pred_Nodes_cs (p : Pr) : nodP p ≤ 900000000 → CS Tryd.prog G 127 [.agg (prD p)] (.d (.int .i64 (nodP p))) none := by
  revert p
  refine Pr.ind fun p ih => ?_
  obtain ⟨op, nm, n, l⟩ := p
  intro hN
  simp only at ih
  have hn := nodP_kids ⟨op, nm, n, l⟩
  simp only at hn
  have hl := len_le_nodPs l
  refine CS.of_VK Tryd.func127 rfl Tryd.ntmps127 rfl ?_
  simp
  refine SW.loopF (ι := { i : Nat // i ≤ l.length }) (fun i => [(3, .d (.int .i64 (1 + nodPs (l.take i.1) : Nat))), (9, .d (.int .i64 i.1))]) (fun _ => [(1, prO op nm n (.sl (l.map prC)))]) (fun _ => []) (fun i => l.length - i.1) ⟨0, by simp⟩ (by simp [nodPs]) ?_
  rintro ⟨i, hi⟩
  by_cases hlt : i < l.length
  · have hg := prs_get hlt
    have hw := wrap64s (show i < 9223372036854775807 by omega)
    have hb2 := nodPs_step hlt
    have hb3 := nodPs_take_le l (i + 1)
    have hw2 : IntKind.i64.wrap (((1 + nodPs (l.take i) : Nat) : Int) + (nodP l[i] : Int)) = ((1 + nodPs (l.take (i + 1)) : Nat) : Int) := by rw [wrap64 (by omega), hb2]; omega
    simp [hlt, hg]
    refine callK.mk ent_pred_Nodes (ih l[i] (List.getElem_mem hlt) (by omega)) ?_
    simp
    exact Again.mk ⟨i + 1, hlt⟩ (by simp at hw2; simp [hw, hw2]) (by simp; omega)
  · have : i = l.length := by omega
    subst this
    simp [hn]
theorem ent_pred_Depth : VM.Enters Tryd.prog 128 := VM.Enters.mk Tryd.func128 rfl
theorem pred_Depth_cs (p : Pr) : nodP p ≤ 900000000 → CS Tryd.prog G 128 [.agg (prD p)] (.d (.int .i64 (depP p))) none := by
  revert p
  refine Pr.ind fun p ih => ?_
  obtain ⟨op, nm, n, l⟩ := p
  intro hN
  simp only at ih
  have hn := nodP_kids ⟨op, nm, n, l⟩
  have hd := depP_eq ⟨op, nm, n, l⟩
  simp only at hn hd
  have hl := len_le_nodPs l
  have hle := depPs_le l 0
  refine CS.of_VK Tryd.func128 rfl Tryd.ntmps128 rfl ?_
  simp
  refine SW.loopF (ι := { i : Nat // i ≤ l.length }) (fun i => [(3, .d (.int .i64 (depPs (l.take i.1) 0))), (9, .d (.int .i64 i.1))]) (fun _ => [(1, prO op nm n (.sl (l.map prC)))]) (fun _ => []) (fun i => l.length - i.1) ⟨0, by simp⟩ (by simp [depPs]) ?_
  rintro ⟨i, hi⟩
  by_cases hlt : i < l.length
  · have hg := prs_get hlt
    have hw := wrap64s (show i < 9223372036854775807 by omega)
    have hs := depPs_step hlt 0
    have hb2 := nodPs_step hlt
    have hb3 := nodPs_take_le l (i + 1)
    simp [hlt, hg]
    refine callK.mk ent_pred_Depth (ih l[i] (List.getElem_mem hlt) (by omega)) ?_
    simp
    exact Again.mk ⟨i + 1, hlt⟩ (by simp [hw, hs]; split <;> omega) (by simp; omega)
  · have : i = l.length := by omega
    subst this
    have hw : IntKind.i64.wrap ((depPs l 0 : Int) + 1) = ((depPs l 0 + 1 : Nat) : Int) := wrap64s (by omega)
    simp [hw, hd]
/-! ### The check -/
mutual
theorem preP_nod : ∀ (p q : Pr), q ∈ preP p → nodP q ≤ nodP p
  | ⟨op, nm, n, l⟩, q, h => by
    simp only [preP, List.mem_cons] at h
    rcases h with rfl | h
    · exact Nat.le_refl _
    · have := prePs_nod l q h
      simp only [nodP]
      omega
theorem prePs_nod : ∀ (l : List Pr) (q : Pr), q ∈ prePs l → nodP q ≤ nodPs l
  | [], q, h => by simp [prePs] at h
  | t :: r, q, h => by
    simp only [prePs, List.mem_append] at h
    simp only [nodPs]
    rcases h with h | h
    · have := preP_nod t q h
      omega
    · have := prePs_nod r q h
      omega
end
/-- The error of a predicate. -/
def chkE (p : Pr) : Int := chkP nodeE p
theorem ent_pred_Check : VM.Enters Tryd.prog 123 := VM.Enters.mk Tryd.func123 rfl
theorem pred_Check_cs (hG : G 0 = some kwCells) (p : Pr) (hN : nodP p ≤ 1000000) : CS Tryd.prog G 123 [.agg (prD p)] (.d (.int .i64 (chkE p))) none := by
  have h := pred_Check_of (G := G) nodeE p hN (by have := pred_Nodes_cs (G := G) p (by omega); rwa [prC_eq]) (by have := pred_Depth_cs (G := G) p (by omega); rwa [prC_eq]) (fun q hq => by
    have h1 := preP_nod p q hq
    have h2 := nodP_kids q
    have h3 := len_le_nodPs q.kids
    have := pred_node_cs hG q (by omega)
    rwa [prC_eq])
  rwa [prC_eq] at h
end Go.Proofs.YthikbenglkfioaaDoor
