/- Joined texts. The program's check of the types in a type is a function that is entered. The walk of the program's check of the types in a type: function types. The walk of the program's check of the types in a type: types that are neither data nor variables nor functions. The walk of the program's check of the types in a type: data types. No condition. -/
import Derived.Test.YtcmpodbjhoeblaaDoorZA
section
set_option linter.unusedVariables false
set_option linter.unusedSimpArgs false
set_option linter.unusedSectionVars false
namespace Go.Proofs.YtcmpodbjhoeblaaDoor
open Go Go.VM
theorem ent_types_form : VM.Enters Tryd.prog 39 := VM.Enters.mk Tryd.func39 rfl
end Go.Proofs.YtcmpodbjhoeblaaDoor
end

section
set_option linter.unusedVariables false
set_option linter.unusedSimpArgs false
set_option linter.unusedSectionVars false
namespace Go.Proofs.YtcmpodbjhoeblaaDoor
open Go Go.VM
set_option maxRecDepth 100000
set_option maxHeartbeats 8000000
variable {G : GT}
attribute [local simp] lit_lt_succ succ_lt_lit
theorem form_six (nm : Nm) (l : List Ty) (ns : List Nm) (p : Pr) (ps : List Pr) (ih : ∀ k ∈ l, allT k ≤ 900000000 → CS Tryd.prog G 39 [.agg (tyD k)] (.d (.int .i64 (formT k))) none) (hN : allT ⟨6, nm, l, ns, p, ps⟩ ≤ 900000000) :
    CS Tryd.prog G 39 [.agg (tyD ⟨6, nm, l, ns, p, ps⟩)] (.d (.int .i64 (formT ⟨6, nm, l, ns, p, ps⟩))) none := by
  have hn := allT_eq ⟨6, nm, l, ns, p, ps⟩
  have hq := formT_eq ⟨6, nm, l, ns, p, ps⟩
  simp only at hn hq
  have hl := len_le_allTs l
  refine CS.of_VK Tryd.func39 rfl Tryd.ntmps39 rfl ?_
  simp
  rcases nm with _ | ⟨c, nm⟩
  rotate_left
  · simp [hq, nodeE, badS]
  simp
  by_cases hp : 0 < l.length <;> simp [hp] <;> by_cases hn0 : 0 < ns.length <;> simp [hn0]
  all_goals
    refine callK.mk ent_types_arity (types_arity_cs 6 [] l ns p ps (by omega) (by omega)) ?_
    cases hb : badA 6 l.length ns.length
  · simp [nodeE, badS, badN, hb, hn0, hp] at hq
    simp [arE]
    refine SW.loopF (ι := { i : Nat // i ≤ l.length ∧ formTs (l.drop i) = formTs l }) (fun i => [(92, .d (.int .i64 i.1))]) (fun _ => [(1, tyO 6 [] (.sl (l.map tyC)) (.sl (strs ns)) p (.sl (ps.map prC)))]) (fun _ => []) (fun i => l.length - i.1) ⟨0, by simp⟩ (by simp) ?_
    rintro ⟨i, hi, hR⟩
    try simp only at hi hR
    by_cases hlt : i < l.length
    · have hg := tys_get hlt
      have hw := wrap64s (show i < 9223372036854775807 by omega)
      have hb2 := allTs_mem hlt
      simp [hlt, hg]
      refine callK.mk ent_types_form (ih l[i] (List.getElem_mem hlt) (by omega)) ?_
      rw [formTs_drop hlt] at hR
      by_cases hs : formT l[i] = 0
      · rw [if_pos hs] at hR
        simp [hs]
        exact Again.mk ⟨i + 1, hlt, hR⟩ (by simp [hw]) (by simp; omega)
      · rw [if_neg hs] at hR
        simp [hs, hq, ← hR]
    · have : i = l.length := by omega
      subst this
      rw [formTs_end] at hR
      simp [hq, ← hR]
  · simp [nodeE, badS, badN, hb, hn0, hp] at hq
    simp [arE, hq]
  · simp [nodeE, badS, badN, hb, hn0, hp] at hq
    simp [arE]
    refine SW.loopF (ι := { i : Nat // i ≤ l.length ∧ formTs (l.drop i) = formTs l }) (fun i => [(92, .d (.int .i64 i.1))]) (fun _ => [(1, tyO 6 [] (.sl (l.map tyC)) (.sl (strs ns)) p (.sl (ps.map prC)))]) (fun _ => []) (fun i => l.length - i.1) ⟨0, by simp⟩ (by simp) ?_
    rintro ⟨i, hi, hR⟩
    try simp only at hi hR
    by_cases hlt : i < l.length
    · have hg := tys_get hlt
      have hw := wrap64s (show i < 9223372036854775807 by omega)
      have hb2 := allTs_mem hlt
      simp [hlt, hg]
      refine callK.mk ent_types_form (ih l[i] (List.getElem_mem hlt) (by omega)) ?_
      rw [formTs_drop hlt] at hR
      by_cases hs : formT l[i] = 0
      · rw [if_pos hs] at hR
        simp [hs]
        exact Again.mk ⟨i + 1, hlt, hR⟩ (by simp [hw]) (by simp; omega)
      · rw [if_neg hs] at hR
        simp [hs, hq, ← hR]
    · have : i = l.length := by omega
      subst this
      rw [formTs_end] at hR
      simp [hq, ← hR]
  · simp [nodeE, badS, badN, hb, hn0, hp] at hq
    simp [arE, hq]
  · simp [nodeE, badS, badN, hb, hn0, hp] at hq
    simp [arE]
    refine SW.loopF (ι := { i : Nat // i ≤ l.length ∧ formTs (l.drop i) = formTs l }) (fun i => [(92, .d (.int .i64 i.1))]) (fun _ => [(1, tyO 6 [] (.sl (l.map tyC)) (.sl (strs ns)) p (.sl (ps.map prC)))]) (fun _ => []) (fun i => l.length - i.1) ⟨0, by simp⟩ (by simp) ?_
    rintro ⟨i, hi, hR⟩
    try simp only at hi hR
    by_cases hlt : i < l.length
    · have hg := tys_get hlt
      have hw := wrap64s (show i < 9223372036854775807 by omega)
      have hb2 := allTs_mem hlt
      simp [hlt, hg]
      refine callK.mk ent_types_form (ih l[i] (List.getElem_mem hlt) (by omega)) ?_
      rw [formTs_drop hlt] at hR
      by_cases hs : formT l[i] = 0
      · rw [if_pos hs] at hR
        simp [hs]
        exact Again.mk ⟨i + 1, hlt, hR⟩ (by simp [hw]) (by simp; omega)
      · rw [if_neg hs] at hR
        simp [hs, hq, ← hR]
    · have : i = l.length := by omega
      subst this
      rw [formTs_end] at hR
      simp [hq, ← hR]
  · simp [nodeE, badS, badN, hb, hn0, hp] at hq
    simp [arE, hq]
  · simp [nodeE, badS, badN, hb, hn0, hp] at hq
    simp [arE]
    refine SW.loopF (ι := { i : Nat // i ≤ l.length ∧ formTs (l.drop i) = formTs l }) (fun i => [(92, .d (.int .i64 i.1))]) (fun _ => [(1, tyO 6 [] (.sl (l.map tyC)) (.sl (strs ns)) p (.sl (ps.map prC)))]) (fun _ => []) (fun i => l.length - i.1) ⟨0, by simp⟩ (by simp) ?_
    rintro ⟨i, hi, hR⟩
    try simp only at hi hR
    by_cases hlt : i < l.length
    · have hg := tys_get hlt
      have hw := wrap64s (show i < 9223372036854775807 by omega)
      have hb2 := allTs_mem hlt
      simp [hlt, hg]
      refine callK.mk ent_types_form (ih l[i] (List.getElem_mem hlt) (by omega)) ?_
      rw [formTs_drop hlt] at hR
      by_cases hs : formT l[i] = 0
      · rw [if_pos hs] at hR
        simp [hs]
        exact Again.mk ⟨i + 1, hlt, hR⟩ (by simp [hw]) (by simp; omega)
      · rw [if_neg hs] at hR
        simp [hs, hq, ← hR]
    · have : i = l.length := by omega
      subst this
      rw [formTs_end] at hR
      simp [hq, ← hR]
  · simp [nodeE, badS, badN, hb, hn0, hp] at hq
    simp [arE, hq]
end Go.Proofs.YtcmpodbjhoeblaaDoor
end

section
set_option linter.unusedVariables false
set_option linter.unusedSimpArgs false
set_option linter.unusedSectionVars false
namespace Go.Proofs.YtcmpodbjhoeblaaDoor
open Go Go.VM
set_option maxRecDepth 100000
set_option maxHeartbeats 8000000
variable {G : GT}
attribute [local simp] lit_lt_succ succ_lt_lit
theorem form_other (op : Int) (nm : Nm) (l : List Ty) (ns : List Nm) (p : Pr) (ps : List Pr) (h4 : ¬ op = 4) (h5 : ¬ op = 5) (h6 : ¬ op = 6) (ih : ∀ k ∈ l, allT k ≤ 900000000 → CS Tryd.prog G 39 [.agg (tyD k)] (.d (.int .i64 (formT k))) none) (hN : allT ⟨op, nm, l, ns, p, ps⟩ ≤ 900000000) :
    CS Tryd.prog G 39 [.agg (tyD ⟨op, nm, l, ns, p, ps⟩)] (.d (.int .i64 (formT ⟨op, nm, l, ns, p, ps⟩))) none := by
  have hn := allT_eq ⟨op, nm, l, ns, p, ps⟩
  have hq := formT_eq ⟨op, nm, l, ns, p, ps⟩
  simp only at hn hq
  have hl := len_le_allTs l
  refine CS.of_VK Tryd.func39 rfl Tryd.ntmps39 rfl ?_
  by_cases ho : op < 1
  · simp [h4, h5, h6, ho, hq, nodeE, badS]
  by_cases ho6 : 6 < op
  · simp [h4, h5, h6, ho, ho6, hq, nodeE, badS]
  simp [h4, h5, h6, ho, ho6]
  rcases nm with _ | ⟨c, nm⟩
  rotate_left
  · simp [hq, nodeE, badS, h4, h5, h6, ho, ho6]
  simp [h4, h5, h6, ho, ho6]
  by_cases hp : 0 < l.length
  · simp [hp, hq, nodeE, badS, h4, h5, h6, ho, ho6]
  simp [hp, h4, h5, h6, ho, ho6]
  by_cases hn0 : 0 < ns.length
  · simp [hp, hn0, hq, nodeE, badS, h4, h5, h6, ho, ho6]
  simp [hp, hn0, h4, h5, h6, ho, ho6]
  refine callK.mk ent_types_arity (types_arity_cs op [] l ns p ps (by omega) (by omega)) ?_
  simp [nodeE, badS, badN, badA, hn0, hp, h4, h5, h6, ho, ho6] at hq
  simp [arE, badA, h4, h5, h6]
  refine SW.loopF (ι := { i : Nat // i ≤ l.length ∧ formTs (l.drop i) = formTs l }) (fun i => [(92, .d (.int .i64 i.1))]) (fun _ => [(1, tyO op [] (.sl (l.map tyC)) (.sl (strs ns)) p (.sl (ps.map prC)))]) (fun _ => []) (fun i => l.length - i.1) ⟨0, by simp⟩ (by simp) ?_
  rintro ⟨i, hi, hR⟩
  try simp only at hi hR
  by_cases hlt : i < l.length
  · have hg := tys_get hlt
    have hw := wrap64s (show i < 9223372036854775807 by omega)
    have hb2 := allTs_mem hlt
    simp [hlt, hg]
    refine callK.mk ent_types_form (ih l[i] (List.getElem_mem hlt) (by omega)) ?_
    rw [formTs_drop hlt] at hR
    by_cases hs : formT l[i] = 0
    · rw [if_pos hs] at hR
      simp [hs]
      exact Again.mk ⟨i + 1, hlt, hR⟩ (by simp [hw]) (by simp; omega)
    · rw [if_neg hs] at hR
      simp [hs, hq, ← hR]
  · have : i = l.length := by omega
    subst this
    rw [formTs_end] at hR
    simp [hq, ← hR]
theorem form_five (nm : Nm) (l : List Ty) (ns : List Nm) (p : Pr) (ps : List Pr) (ih : ∀ k ∈ l, allT k ≤ 900000000 → CS Tryd.prog G 39 [.agg (tyD k)] (.d (.int .i64 (formT k))) none) (hG : G 0 = some kwCells) (hN : allT ⟨5, nm, l, ns, p, ps⟩ ≤ 900000000) :
    CS Tryd.prog G 39 [.agg (tyD ⟨5, nm, l, ns, p, ps⟩)] (.d (.int .i64 (formT ⟨5, nm, l, ns, p, ps⟩))) none := by
  have hn := allT_eq ⟨5, nm, l, ns, p, ps⟩
  have hq := formT_eq ⟨5, nm, l, ns, p, ps⟩
  have cnil : coreB [] = false := rfl
  simp only at hn hq
  have hl := len_le_allTs l
  refine CS.of_VK Tryd.func39 rfl Tryd.ntmps39 rfl ?_
  simp
  rcases nm with _ | ⟨c, nm⟩ <;> simp <;> by_cases hp : 0 < l.length <;> simp [hp, hq, nodeE, badS] <;> by_cases hn0 : 0 < ns.length <;> simp [hp, hn0, hq, nodeE, badS]
  · refine callK.mk ent_types_arity (types_arity_cs 5 [] l ns p ps (by omega) (by omega)) ?_
    simp [arE, badA]
    refine callK.mk ent_n_Core (n_Core_cs hG []) ?_
    simp [cnil, errName, badN]
  · refine callK.mk ent_types_arity (types_arity_cs 5 (c :: nm) l ns p ps (by omega) (by omega)) ?_
    simp [arE, badA]
    refine callK.mk ent_n_Core (n_Core_cs hG (c :: nm)) ?_
    cases hc : coreB (c :: nm)
    · simp [errName, badN, hc]
    · simp [errName]
      simp [nodeE, badS, badN, badA, hn0, hp, hc] at hq
      by_cases ha : 65 ≤ c.toNat
      · by_cases hz : c.toNat ≤ 90
        · simp [upB, ha, hz, badN, hc]
        · simp [upB, ha, hz] at hq
          simp [upB, ha, hz, badN, hc]
          refine SW.loopF (ι := { i : Nat // i ≤ l.length ∧ formTs (l.drop i) = formTs l }) (fun i => [(92, .d (.int .i64 i.1))]) (fun _ => [(1, tyO 5 (c :: nm) (.sl (l.map tyC)) (.sl (strs ns)) p (.sl (ps.map prC)))]) (fun _ => []) (fun i => l.length - i.1) ⟨0, by simp⟩ (by simp) ?_
          rintro ⟨i, hi, hR⟩
          try simp only at hi hR
          by_cases hlt : i < l.length
          · have hg := tys_get hlt
            have hw := wrap64s (show i < 9223372036854775807 by omega)
            have hb2 := allTs_mem hlt
            simp [hlt, hg]
            refine callK.mk ent_types_form (ih l[i] (List.getElem_mem hlt) (by omega)) ?_
            rw [formTs_drop hlt] at hR
            by_cases hs : formT l[i] = 0
            · rw [if_pos hs] at hR
              simp [hs]
              exact Again.mk ⟨i + 1, hlt, hR⟩ (by simp [hw]) (by simp; omega)
            · rw [if_neg hs] at hR
              simp [hs, hq, ← hR]
          · have : i = l.length := by omega
            subst this
            rw [formTs_end] at hR
            simp [hq, ← hR]
      · simp [upB, ha] at hq
        simp [upB, ha, badN, hc]
        refine SW.loopF (ι := { i : Nat // i ≤ l.length ∧ formTs (l.drop i) = formTs l }) (fun i => [(92, .d (.int .i64 i.1))]) (fun _ => [(1, tyO 5 (c :: nm) (.sl (l.map tyC)) (.sl (strs ns)) p (.sl (ps.map prC)))]) (fun _ => []) (fun i => l.length - i.1) ⟨0, by simp⟩ (by simp) ?_
        rintro ⟨i, hi, hR⟩
        try simp only at hi hR
        by_cases hlt : i < l.length
        · have hg := tys_get hlt
          have hw := wrap64s (show i < 9223372036854775807 by omega)
          have hb2 := allTs_mem hlt
          simp [hlt, hg]
          refine callK.mk ent_types_form (ih l[i] (List.getElem_mem hlt) (by omega)) ?_
          rw [formTs_drop hlt] at hR
          by_cases hs : formT l[i] = 0
          · rw [if_pos hs] at hR
            simp [hs]
            exact Again.mk ⟨i + 1, hlt, hR⟩ (by simp [hw]) (by simp; omega)
          · rw [if_neg hs] at hR
            simp [hs, hq, ← hR]
        · have : i = l.length := by omega
          subst this
          rw [formTs_end] at hR
          simp [hq, ← hR]
end Go.Proofs.YtcmpodbjhoeblaaDoor
end

section
set_option linter.unusedVariables false
set_option linter.unusedSimpArgs false
set_option linter.unusedSectionVars false
namespace Go.Proofs.YtcmpodbjhoeblaaDoor
open Go Go.VM
set_option maxRecDepth 100000
set_option maxHeartbeats 8000000
variable {G : GT}
attribute [local simp] lit_lt_succ succ_lt_lit
theorem form_four (nm : Nm) (l : List Ty) (ns : List Nm) (p : Pr) (ps : List Pr) (ih : ∀ k ∈ l, allT k ≤ 900000000 → CS Tryd.prog G 39 [.agg (tyD k)] (.d (.int .i64 (formT k))) none) (hG : G 0 = some kwCells) (hN : allT ⟨4, nm, l, ns, p, ps⟩ ≤ 900000000) :
    CS Tryd.prog G 39 [.agg (tyD ⟨4, nm, l, ns, p, ps⟩)] (.d (.int .i64 (formT ⟨4, nm, l, ns, p, ps⟩))) none := by
  have hn := allT_eq ⟨4, nm, l, ns, p, ps⟩
  have hq := formT_eq ⟨4, nm, l, ns, p, ps⟩
  have cnil : coreB [] = false := rfl
  simp only at hn hq
  have hl := len_le_allTs l
  refine CS.of_VK Tryd.func39 rfl Tryd.ntmps39 rfl ?_
  simp
  rcases nm with _ | ⟨c, nm⟩ <;> simp <;> by_cases hp : 0 < l.length <;> simp [hp] <;> by_cases hn0 : 0 < ns.length <;> simp [hn0, hq, nodeE, badS]
  · refine callK.mk ent_types_arity (types_arity_cs 4 [] l ns p ps (by omega) (by omega)) ?_
    by_cases h6 : 6 < l.length
    · simp [arE, badA, h6]
    simp [arE, badA, h6]
    refine callK.mk ent_n_Core (n_Core_cs hG []) ?_
    simp [cnil, errName, badN]
  · refine callK.mk ent_types_arity (types_arity_cs 4 [] l ns p ps (by omega) (by omega)) ?_
    by_cases h6 : 6 < l.length
    · simp [arE, badA, h6]
    simp [arE, badA, h6]
    refine callK.mk ent_n_Core (n_Core_cs hG []) ?_
    simp [cnil, errName, badN]
  · refine callK.mk ent_types_arity (types_arity_cs 4 (c :: nm) l ns p ps (by omega) (by omega)) ?_
    by_cases h6 : 6 < l.length
    · simp [arE, badA, h6]
    simp [arE, badA, h6]
    refine callK.mk ent_n_Core (n_Core_cs hG (c :: nm)) ?_
    cases hc : coreB (c :: nm)
    · simp [errName, badN, hc]
    · simp [errName]
      simp [nodeE, badS, badN, badA, hn0, hp, hc, h6] at hq
      by_cases ha : 65 ≤ c.toNat
      · by_cases hz : c.toNat ≤ 90
        · simp [upB, ha, hz] at hq
          simp [upB, ha, hz, badN, hc]
          refine SW.loopF (ι := { i : Nat // i ≤ l.length ∧ formTs (l.drop i) = formTs l }) (fun i => [(92, .d (.int .i64 i.1))]) (fun _ => [(1, tyO 4 (c :: nm) (.sl (l.map tyC)) (.sl (strs ns)) p (.sl (ps.map prC)))]) (fun _ => []) (fun i => l.length - i.1) ⟨0, by simp⟩ (by simp) ?_
          rintro ⟨i, hi, hR⟩
          try simp only at hi hR
          by_cases hlt : i < l.length
          · have hg := tys_get hlt
            have hw := wrap64s (show i < 9223372036854775807 by omega)
            have hb2 := allTs_mem hlt
            simp [hlt, hg]
            refine callK.mk ent_types_form (ih l[i] (List.getElem_mem hlt) (by omega)) ?_
            rw [formTs_drop hlt] at hR
            by_cases hs : formT l[i] = 0
            · rw [if_pos hs] at hR
              simp [hs]
              exact Again.mk ⟨i + 1, hlt, hR⟩ (by simp [hw]) (by simp; omega)
            · rw [if_neg hs] at hR
              simp [hs, hq, ← hR]
          · have : i = l.length := by omega
            subst this
            rw [formTs_end] at hR
            simp [hq, ← hR]
        · simp [upB, ha, hz, badN, hc]
      · simp [upB, ha, badN, hc]
  · refine callK.mk ent_types_arity (types_arity_cs 4 (c :: nm) l ns p ps (by omega) (by omega)) ?_
    by_cases h6 : 6 < l.length
    · simp [arE, badA, h6]
    simp [arE, badA, h6]
    refine callK.mk ent_n_Core (n_Core_cs hG (c :: nm)) ?_
    cases hc : coreB (c :: nm)
    · simp [errName, badN, hc]
    · simp [errName]
      simp [nodeE, badS, badN, badA, hn0, hp, hc, h6] at hq
      by_cases ha : 65 ≤ c.toNat
      · by_cases hz : c.toNat ≤ 90
        · simp [upB, ha, hz] at hq
          simp [upB, ha, hz, badN, hc]
          refine SW.loopF (ι := { i : Nat // i ≤ l.length ∧ formTs (l.drop i) = formTs l }) (fun i => [(92, .d (.int .i64 i.1))]) (fun _ => [(1, tyO 4 (c :: nm) (.sl (l.map tyC)) (.sl (strs ns)) p (.sl (ps.map prC)))]) (fun _ => []) (fun i => l.length - i.1) ⟨0, by simp⟩ (by simp) ?_
          rintro ⟨i, hi, hR⟩
          try simp only at hi hR
          by_cases hlt : i < l.length
          · have hg := tys_get hlt
            have hw := wrap64s (show i < 9223372036854775807 by omega)
            have hb2 := allTs_mem hlt
            simp [hlt, hg]
            refine callK.mk ent_types_form (ih l[i] (List.getElem_mem hlt) (by omega)) ?_
            rw [formTs_drop hlt] at hR
            by_cases hs : formT l[i] = 0
            · rw [if_pos hs] at hR
              simp [hs]
              exact Again.mk ⟨i + 1, hlt, hR⟩ (by simp [hw]) (by simp; omega)
            · rw [if_neg hs] at hR
              simp [hs, hq, ← hR]
          · have : i = l.length := by omega
            subst this
            rw [formTs_end] at hR
            simp [hq, ← hR]
        · simp [upB, ha, hz, badN, hc]
      · simp [upB, ha, badN, hc]
end Go.Proofs.YtcmpodbjhoeblaaDoor
end
