/- The sorts of predicates: the walks of the reference. No condition. -/
import Derived.Test.YthikbenglkfioaaGreatDoorPo
import Derived.Test.YthikbenglkfioaaGreatDoorZA
set_option linter.unusedVariables false
set_option linter.unusedSimpArgs false
set_option linter.unusedSectionVars false
namespace Go.Proofs.YthikbenglkfioaaGreatDoor
open Go Go.VM
set_option maxRecDepth 100000
set_option maxHeartbeats 8000000
variable {G : GT}
/-! ### The check of the reference -/
theorem ent_r7_named : VM.Enters Tryz.prog 163 := VM.Enters.mk Tryz.func163 rfl
theorem r7_named_cs (op : Int) : CS Tryz.prog G 163 [.int .i64 op] (.d (.bool (namB op))) none := by
  refine CS.of_VK Tryz.func163 rfl Tryz.ntmps163 rfl ?_
  by_cases h3 : op = 3
  · simp [h3, namB]
  · by_cases h4 : op = 4
    · simp [h4, namB]
    · simp [h3, h4, namB]
def kidsB (op len : Int) : Bool := !(decide (len < leastK op) || decide (mostK op < len))
theorem ent_r7_kids : VM.Enters Tryz.prog 164 := VM.Enters.mk Tryz.func164 rfl
theorem r7_kids_cs (op : Int) (len : Nat) : CS Tryz.prog G 164 [.int .i64 op, .int .i64 len] (.d (.bool (kidsB op len))) none := by
  have one : ∀ k : Nat, (!(decide ((len : Int) < k) || decide ((k : Int) < len))) = decide (len = k) := fun k => by
    by_cases h : len = k
    · simp [h]
    · rcases Nat.lt_or_gt_of_ne h with h1 | h1
      · have : (len : Int) < k := by omega
        simp [h, this]
      · have : (k : Int) < len := by omega
        simp [h, this]
  have z0 := one 0
  have z1 := one 1
  have z2 := one 2
  refine CS.of_VK Tryz.func164 rfl Tryz.ntmps164 rfl ?_
  by_cases h1 : op = 1
  · simp [kidsB, leastK, mostK, h1]
    simpa using z0.symm
  by_cases h2 : op = 2
  · simp [kidsB, leastK, mostK, h2]
    simpa using z0.symm
  by_cases h3 : op = 3
  · simp [kidsB, leastK, mostK, h3]
    simpa using z0.symm
  by_cases h45 : op = 4 ∨ op = 5
  · have e : kidsB op len = (decide (1 ≤ len) && decide (len ≤ 24)) := by
      simp only [kidsB, leastK, mostK, h1, h2, h3, or_self, if_false, h45, if_true, Bool.not_or, ← decide_not]
      congr 1 <;> (rw [decide_eq_decide]; omega)
    rw [e]
    rcases h45 with h | h
    · by_cases c1 : 1 ≤ len
      · simp [h, c1]
      · simp [h, c1]
    · by_cases c1 : 1 ≤ len
      · simp [h, c1]
      · simp [h, c1]
  by_cases h914 : op = 9 ∨ op = 14
  · have e : kidsB op len = decide (len = 1) := by
      simp only [kidsB, leastK, mostK, h1, h2, h3, or_self, if_false, h45, h914, if_true]
      exact z1
    rw [e]
    have h4 : ¬ op = 4 := fun e => h45 (.inl e)
    have h5 : ¬ op = 5 := fun e => h45 (.inr e)
    rcases h914 with h | h <;> simp [h]
  · have e : kidsB op len = decide (len = 2) := by
      simp only [kidsB, leastK, mostK, h1, h2, h3, or_self, if_false, h45, h914]
      exact z2
    rw [e]
    have h4 : ¬ op = 4 := fun e => h45 (.inl e)
    have h5 : ¬ op = 5 := fun e => h45 (.inr e)
    have h9 : ¬ op = 9 := fun e => h914 (.inl e)
    have h14 : ¬ op = 14 := fun e => h914 (.inr e)
    simp [h1, h2, h3, h4, h5, h9, h14]
def calB (op : Int) (nm : Nm) : Bool := !(namB op && !coreB nm && !freeN op nm)
theorem ent_r7_called : VM.Enters Tryz.prog 166 := VM.Enters.mk Tryz.func166 rfl
theorem r7_called_cs (p : Pr) : CS Tryz.prog G 166 [.agg (prD p)] (.d (.bool (calB p.op p.name))) none := by
  refine CS.of_VK Tryz.func166 rfl Tryz.ntmps166 rfl ?_
  by_cases h3 : p.op = 3
  · by_cases hv : p.name = [118]
    · simp [h3, hv, calB, namB, freeN]
    · simp [h3, hv]
      refine callK.mk ent_r4_Core (r4_Core_cs p.name) ?_
      cases hc : coreB p.name <;> simp [errName, calB, namB, freeN, h3, hv, hc]
  by_cases h4 : p.op = 4
  · by_cases hv : p.name = [116, 97, 103]
    · simp [h4, hv, calB, namB, freeN]
    · by_cases hv2 : p.name = [118, 97, 108]
      · simp [h4, hv2, calB, namB, freeN]
      · simp [h4, hv, hv2]
        refine callK.mk ent_r4_Core (r4_Core_cs p.name) ?_
        cases hc : coreB p.name <;> simp [errName, calB, namB, freeN, h4, hv, hv2, hc]
  by_cases h5 : p.op = 5
  · simp [h5]
    refine callK.mk ent_r4_Core (r4_Core_cs p.name) ?_
    cases hc : coreB p.name <;> simp [errName, calB, namB, freeN, h5, hc]
  · simp [h3, h4, h5, calB, namB]
theorem ent_r7_node : VM.Enters Tryz.prog 157 := VM.Enters.mk Tryz.func157 rfl
theorem r7_node_cs (p : Pr) (hlen : p.kids.length ≤ 900000000) : CS Tryz.prog G 157 [.agg (prD p)] (.d (.int .i64 (nodeE p))) none := by
  obtain ⟨op, nm, n, l⟩ := p
  simp only at hlen
  have hcal := r7_called_cs (G := G) ⟨op, nm, n, l⟩
  have hkd := r7_kids_cs (G := G) op l.length
  simp only at hcal
  have hm : nodeE ⟨op, nm, n, l⟩ = if op < 1 ∨ 18 < op then 1 else if argE op nm n l.length then 1 else if rangeE op n then 2 else if namB op && !coreB nm && !freeN op nm then 3 else if op = 8 ∧ headK l ≠ 1 then 6 else 0 := rfl
  have hargs : argE op nm n l.length = ((!namB op && !decide (nm = [])) || (!decide (op = 1) && !decide (op = 2) && !decide (n = 0)) || !kidsB op l.length) := by
    simp only [argE, kidsB, Bool.not_not, Bool.or_assoc]
  rw [hargs] at hm
  obtain ⟨cb, hcb⟩ : ∃ b, (namB op && !coreB nm && !freeN op nm) = b := ⟨_, rfl⟩
  have hcl : calB op nm = !cb := by rw [calB, hcb]
  rw [hcl] at hcal
  rw [hcb] at hm
  refine CS.of_VK Tryz.func157 rfl Tryz.ntmps157 rfl ?_
  by_cases a1 : op < 1
  · simp [a1] at hm
    have o1 : ¬ op = 1 := by omega
    have o2 : ¬ op = 2 := by omega
    simp (maxSteps := 4000000) [o1, o2, a1, hm]
  by_cases a2 : 18 < op
  · simp [a2] at hm
    have o1 : ¬ op = 1 := by omega
    have o2 : ¬ op = 2 := by omega
    simp (maxSteps := 4000000) [o1, o2, a1, a2, hm]
  rw [if_neg (by omega)] at hm
  by_cases o1 : op = 1
  · subst o1
    have hn : namB 1 = false := rfl
    rw [hn, Bool.false_and, Bool.false_and] at hcb
    subst hcb
    by_cases b1 : nm = []
    rotate_left
    · have b1' : nm.isEmpty = false := by cases nm <;> simp at b1 ⊢
      simp [hn, b1] at hm
      simp (maxSteps := 4000000) [b1, b1']
      refine callK.mk ent_r7_named (r7_named_cs 1) ?_
      simp (maxSteps := 4000000) [hn, hm]
    subst b1
    by_cases c0 : n = 0
    · subst c0
      simp (maxSteps := 4000000)
      refine callK.mk ent_r7_kids hkd ?_
      cases hk : kidsB 1 l.length
      · simp [hn, hk] at hm
        simp (maxSteps := 4000000) [hm]
      · simp [hn, hk, rangeE] at hm
        have hi : inB 0 = true := rfl
        simp (maxSteps := 4000000)
        refine callK.mk ent_r1_In (r1_In_cs 0) ?_
        simp [hi] at hm
        simp (maxSteps := 4000000) [hi]
        refine callK.mk ent_r7_called hcal ?_
        simp (maxSteps := 4000000) [hm]
    · simp (maxSteps := 4000000) [c0]
      refine callK.mk ent_r7_kids hkd ?_
      cases hk : kidsB 1 l.length
      · simp [hn, hk] at hm
        simp (maxSteps := 4000000) [hm]
      · simp [hn, hk, rangeE] at hm
        simp (maxSteps := 4000000)
        refine callK.mk ent_r1_In (r1_In_cs n) ?_
        cases hi : inB n
        · simp [hi] at hm
          simp (maxSteps := 4000000) [hm]
        · simp [hi] at hm
          simp (maxSteps := 4000000)
          refine callK.mk ent_r7_called hcal ?_
          simp (maxSteps := 4000000) [hm]
  by_cases o2 : op = 2
  · subst o2
    have hn : namB 2 = false := rfl
    rw [hn, Bool.false_and, Bool.false_and] at hcb
    subst hcb
    by_cases b1 : nm = []
    rotate_left
    · have b1' : nm.isEmpty = false := by cases nm <;> simp at b1 ⊢
      simp [hn, b1] at hm
      simp (maxSteps := 4000000) [b1, b1']
      refine callK.mk ent_r7_named (r7_named_cs 2) ?_
      simp (maxSteps := 4000000) [hn, hm]
    subst b1
    by_cases c0 : n = 0
    · subst c0
      simp (maxSteps := 4000000)
      refine callK.mk ent_r7_kids hkd ?_
      cases hk : kidsB 2 l.length
      · simp [hn, hk] at hm
        simp (maxSteps := 4000000) [hm]
      · simp [hn, hk, rangeE] at hm
        simp (maxSteps := 4000000)
        refine callK.mk ent_r7_called hcal ?_
        simp (maxSteps := 4000000) [hm]
    · simp (maxSteps := 4000000) [c0]
      refine callK.mk ent_r7_kids hkd ?_
      cases hk : kidsB 2 l.length
      · simp [hn, hk] at hm
        simp (maxSteps := 4000000) [hm]
      · simp [hn, hk, rangeE, c0] at hm
        by_cases c1 : n = 1
        · subst c1
          simp at hm
          simp (maxSteps := 4000000)
          refine callK.mk ent_r7_called hcal ?_
          simp (maxSteps := 4000000) [hm]
        · simp [c1] at hm
          by_cases c2 : n < 0
          · simp (maxSteps := 4000000) [c2, hm]
          · have c3 : 1 < n := by omega
            simp (maxSteps := 4000000) [c2, c3, hm]
  by_cases b1 : nm = []
  · subst b1
    by_cases c0 : n = 0
    rotate_left
    · simp [o1, o2, c0] at hm
      simp (maxSteps := 4000000) [a1, a2, o1, o2, c0, hm]
    subst c0
    simp (maxSteps := 4000000) [a1, a2, o1, o2]
    refine callK.mk ent_r7_kids hkd ?_
    cases hk : kidsB op l.length
    · simp [hk] at hm
      simp (maxSteps := 4000000) [hm]
    · simp [o1, o2, hk, rangeE] at hm
      simp (maxSteps := 4000000) [o1, o2]
      refine callK.mk ent_r7_called hcal ?_
      cases cb
      · by_cases o8 : op = 8
        · subst o8
          match l, hk with
          | [], hk => exact absurd hk (by decide)
          | k :: r, hk =>
            by_cases e1 : k.op = 1
            · simp [headK, e1] at hm
              simp (maxSteps := 4000000) [e1, hm]
            · simp [headK, e1] at hm
              simp (maxSteps := 4000000) [e1, hm]
        · simp [o8] at hm
          simp (maxSteps := 4000000) [o8, hm]
      · simp at hm
        simp (maxSteps := 4000000) [hm]
  · have b1' : nm.isEmpty = false := by cases nm <;> simp at b1 ⊢
    simp (maxSteps := 4000000) [a1, a2, o1, o2, b1, b1']
    refine callK.mk ent_r7_named (r7_named_cs op) ?_
    cases hn : namB op
    · simp [hn, b1] at hm
      simp (maxSteps := 4000000) [hm]
    · by_cases c0 : n = 0
      rotate_left
      · simp [hn, o1, o2, c0] at hm
        simp (maxSteps := 4000000) [c0, hm]
      subst c0
      simp (maxSteps := 4000000)
      refine callK.mk ent_r7_kids hkd ?_
      cases hk : kidsB op l.length
      · simp [hk] at hm
        simp (maxSteps := 4000000) [hm]
      · simp [hn, o1, o2, hk, rangeE] at hm
        simp (maxSteps := 4000000) [o1, o2]
        refine callK.mk ent_r7_called hcal ?_
        cases cb
        · by_cases o8 : op = 8
          · subst o8
            match l, hk with
            | [], hk => exact absurd hk (by decide)
            | k :: r, hk =>
              by_cases e1 : k.op = 1
              · simp [headK, e1] at hm
                simp (maxSteps := 4000000) [e1, hm]
              · simp [headK, e1] at hm
                simp (maxSteps := 4000000) [e1, hm]
          · simp [o8] at hm
            simp (maxSteps := 4000000) [o8, hm]
        · simp at hm
          simp (maxSteps := 4000000) [hm]
theorem ent_r7_form : VM.Enters Tryz.prog 133 := VM.Enters.mk Tryz.func133 rfl
theorem r7_form_cs : ∀ p : Pr, nodP p ≤ 900000000 → CS Tryz.prog G 133 [.agg (prD p)] (.d (.int .i64 (firstE nodeE (preP p)))) none := by
  refine Pr.ind fun p ih => ?_
  intro hN
  have hnd := r7_node_cs (G := G) p (by have := nodP_kids p; have := len_le_nodPs p.kids; omega)
  have hpe := preP_eq p
  obtain ⟨op, nm, n, l⟩ := p
  simp only at ih hpe
  have hn := nodP_kids ⟨op, nm, n, l⟩
  simp only at hn
  have hl := len_le_nodPs l
  rw [hpe, firstE]
  refine CS.of_VK Tryz.func133 rfl Tryz.ntmps133 rfl ?_
  simp
  refine callK.mk ent_r7_node hnd ?_
  by_cases h0 : nodeE ⟨op, nm, n, l⟩ = 0
  rotate_left
  · simp [h0]
  simp [h0]
  refine SW.loopF (ι := { i : Nat // i ≤ l.length ∧ firstE nodeE (prePs (l.take i)) = 0 }) (fun i => [(15, .d (.int .i64 i.1))]) (fun _ => [(1, prO op nm n (.sl (l.map prC)))]) (fun _ => []) (fun i => l.length - i.1) ⟨0, by simp [prePs, firstE]⟩ (by simp) ?_
  rintro ⟨i, hi, hR⟩
  try simp only at hi hR
  by_cases hlt : i < l.length
  · have hg := prs_get hlt
    have hw := wrap64s (show i < 9223372036854775807 by omega)
    have hb2 := nodPs_step hlt
    have hb3 := nodPs_take_le l (i + 1)
    have ht := prePs_take hlt
    have hsp := prePs_split l (i + 1)
    simp [hlt, hg]
    refine callK.mk ent_r7_form (ih l[i] (List.getElem_mem hlt) (by omega)) ?_
    by_cases hk : firstE nodeE (preP l[i]) = 0
    · simp [hk]
      exact Again.mk ⟨i + 1, hlt, by rw [ht, firstE_app, if_pos hR, hk]⟩ (by simp [hw]) (by simp; omega)
    · have hf : firstE nodeE (prePs l) = firstE nodeE (preP l[i]) := by
        rw [hsp, firstE_app, ht, firstE_app, if_pos hR, if_neg hk]
      simp [hk, hf]
  · have : i = l.length := by omega
    subst this
    rw [List.take_length] at hR
    simp [hR]
theorem ent_r7_Check : VM.Enters Tryz.prog 91 := VM.Enters.mk Tryz.func91 rfl
theorem r7_Check_cs (p : Pr) (hN : nodP p ≤ 900000000) : CS Tryz.prog G 91 [.agg (prD p)] (.d (.int .i64 (chkE p))) none := by
  refine CS.of_VK Tryz.func91 rfl Tryz.ntmps91 rfl ?_
  simp
  refine callK.mk ent_r7_Nodes (r7_Nodes_cs p hN) ?_
  by_cases h1 : 400 < nodP p
  · simp [h1, chkE, chkP]
  simp [h1]
  refine callK.mk ent_r7_Depth (r7_Depth_cs p hN) ?_
  by_cases h2 : 40 < depP p
  · simp [h1, h2, chkE, chkP]
  simp [h2]
  refine callK.mk ent_r7_form (r7_form_cs p hN) ?_
  simp [h1, h2, chkE, chkP]
end Go.Proofs.YthikbenglkfioaaGreatDoor
