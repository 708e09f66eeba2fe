/- Joined texts. The walks of the checks of types. The walks of the checks of types: all the types in a type. No condition. -/
import Derived.Test.YtbljhkgdeojliaaDoorZA
section
set_option linter.unusedVariables false
set_option linter.unusedSimpArgs false
set_option linter.unusedSectionVars false
namespace Go.Proofs.YtbljhkgdeojliaaDoor
open Go Go.VM
set_option maxRecDepth 100000
set_option maxHeartbeats 8000000
variable {G : GT}
attribute [local simp] lit_lt_succ succ_lt_lit
theorem r19_node_cs (op : Int) (nm : Nm) (l : List Ty) (ns : List Nm) (p : Pr) (ps : List Pr) (hl : l.length ≤ 900000000) (hn : ns.length ≤ 900000000) :
    CS Tryd.prog G 102 [.agg (tyD ⟨op, nm, l, ns, p, ps⟩)] (.d (.int .i64 (nodeE op nm l.length ns.length))) none := by
  have cnil : coreB [] = false := rfl
  by_cases h6 : op = 6
  · subst h6
    exact r19_node_cs6 nm l ns p ps hl hn
  refine CS.of_VK Tryd.func102 rfl Tryd.ntmps102 rfl ?_
  by_cases ho : op < 1
  · simp [ho, nodeE, badS]
  by_cases ho6 : 6 < op
  · simp [ho, ho6, nodeE, badS]
  by_cases h4 : op = 4
  · subst h4
    simp
    rcases nm with _ | ⟨c, nm⟩ <;> (try simp) <;> rcases l with _ | ⟨a, l⟩ <;> (try simp) <;> rcases ns with _ | ⟨b, ns⟩ <;> (try simp [nodeE, badS])
    · refine callK.mk ent_r19_core (r19_core_cs [] true) ?_
      simp [badA, badN, cnil]
    · by_cases h7 : 6 < l.length + 1
      · simp [h7, badA]
      · simp [h7]
        refine callK.mk ent_r19_core (r19_core_cs [] true) ?_
        simp [h7, badA, badN, cnil]
    · refine callK.mk ent_r19_core (r19_core_cs (c :: nm) true) ?_
      cases hc : coreB (c :: nm) <;> cases hu : upB (c :: nm) <;> simp [badA, badN, hc, hu]
    · by_cases h7 : 6 < l.length + 1
      · simp [h7, badA]
      · simp [h7]
        refine callK.mk ent_r19_core (r19_core_cs (c :: nm) true) ?_
        cases hc : coreB (c :: nm) <;> cases hu : upB (c :: nm) <;> simp [h7, badA, badN, hc, hu]
  by_cases h5 : op = 5
  · subst h5
    simp
    rcases nm with _ | ⟨c, nm⟩ <;> (try simp) <;> rcases l with _ | ⟨a, l⟩ <;> (try simp [nodeE, badS]) <;> rcases ns with _ | ⟨b, ns⟩ <;> (try simp [nodeE, badS])
    · refine callK.mk ent_r19_core (r19_core_cs [] false) ?_
      simp [badA, badN, cnil]
    · refine callK.mk ent_r19_core (r19_core_cs (c :: nm) false) ?_
      cases hc : coreB (c :: nm) <;> cases hu : upB (c :: nm) <;> simp [badA, badN, hc, hu]
  simp [ho, ho6, h4, h5, h6]
  rcases nm with _ | ⟨c, nm⟩ <;> (try simp [ho, ho6, h4, h5, h6, nodeE, badS]) <;> rcases l with _ | ⟨a, l⟩ <;> (try simp [ho, ho6, h4, h5, h6, nodeE, badS]) <;> rcases ns with _ | ⟨b, ns⟩ <;> (try simp [ho, ho6, h4, h5, h6, nodeE, badS, badA, badN])
end Go.Proofs.YtbljhkgdeojliaaDoor
end

section
set_option linter.unusedVariables false
set_option linter.unusedSimpArgs false
set_option linter.unusedSectionVars false
namespace Go.Proofs.YtbljhkgdeojliaaDoor
open Go Go.VM
set_option maxRecDepth 100000
set_option maxHeartbeats 8000000
variable {G : GT}
theorem ent_r19_form : VM.Enters Tryd.prog 74 := VM.Enters.mk Tryd.func74 rfl
theorem r19_form_cs : ∀ t : Ty, allT t ≤ 900000000 → CS Tryd.prog G 74 [.agg (tyD t)] (.d (.int .i64 (formT t))) none := by
  refine Ty.ind fun t ih => ?_
  obtain ⟨op, nm, l, ns, p, ps⟩ := t
  intro hN
  simp only at ih
  have hn := allT_eq ⟨op, nm, l, ns, p, ps⟩
  have hq := formT_eq ⟨op, nm, l, ns, p, ps⟩
  simp only at hn hq
  have hl := len_le_allTs l
  refine CS.of_VK Tryd.func74 rfl Tryd.ntmps74 rfl ?_
  simp
  refine callK.mk ent_r19_node (r19_node_cs op nm l ns p ps (by omega) (by omega)) ?_
  by_cases h0 : nodeE op nm l.length ns.length = 0
  · rw [if_pos h0] at hq
    simp [h0]
    refine SW.loopF (ι := { i : Nat // i ≤ l.length ∧ formTs (l.drop i) = formTs l }) (fun i => [(15, .d (.int .i64 i.1))]) (fun _ => [(1, tyO op nm (.sl (l.map tyC)) (.sl (strs ns)) p (.sl (ps.map prC)))]) (fun _ => []) (fun i => l.length - i.1) ⟨0, by simp⟩ (by simp) ?_
    rintro ⟨i, hi, hR⟩
    try simp only at hi hR
    by_cases hlt : i < l.length
    · have hg := tys_get hlt
      have hw := wrap64s (show i < 9223372036854775807 by omega)
      have hb2 := allTs_mem hlt
      simp [hlt, hg]
      refine callK.mk ent_r19_form (ih l[i] (List.getElem_mem hlt) (by omega)) ?_
      rw [formTs_drop hlt] at hR
      by_cases hs : formT l[i] = 0
      · rw [if_pos hs] at hR
        simp [hs]
        exact Again.mk ⟨i + 1, hlt, hR⟩ (by simp [hw]) (by simp; omega)
      · rw [if_neg hs] at hR
        simp [hs, hq, ← hR]
    · have : i = l.length := by omega
      subst this
      rw [formTs_end] at hR
      simp [hq, ← hR]
  · rw [if_neg h0] at hq
    simp [h0, hq]
theorem ent_r19_Check : VM.Enters Tryd.prog 30 := VM.Enters.mk Tryd.func30 rfl
theorem r19_Check_cs (t : Ty) (h : allT t ≤ 900000000) : CS Tryd.prog G 30 [.agg (tyD t)] (.d (.int .i64 (checkT t))) none := by
  have := nodT_all t
  refine CS.of_VK Tryd.func30 rfl Tryd.ntmps30 rfl ?_
  simp
  refine callK.mk ent_r19_Depth (r19_Depth_cs t (by omega)) ?_
  by_cases hd : 40 < depT t
  · simp [hd, checkT]
  · simp [hd]
    refine callK.mk ent_r19_form (r19_form_cs t h) ?_
    simp [hd, checkT]
end Go.Proofs.YtbljhkgdeojliaaDoor
end
