/- Constraints: the walks of equality, copies, heads, joining, filling, of the tests of the statements. No condition. -/
import Derived.Test.YthikbenglkfioaaGreatDoorCc
set_option linter.unusedVariables false
set_option linter.unusedSimpArgs false
set_option linter.unusedSectionVars false
namespace Go.Proofs.YthikbenglkfioaaGreatDoor
open Go Go.VM
set_option maxRecDepth 100000
set_option maxHeartbeats 8000000
variable {G : GT}
/-! ### Zero -/
theorem ent_constraint_zero : VM.Enters Tryz.prog 139 := VM.Enters.mk Tryz.func139 rfl
theorem constraint_zero_cs (p : Pr) (h : nodP p ≤ 900000000) : CS Tryz.prog G 139 [.agg (prD p)] (.d (.bool (decide (p = zerP)))) none := by
  have e1 := pred_Same_cs (G := G) p zerP h
  rw [samP_dec] at e1
  refine CS.of_VK Tryz.func139 rfl Tryz.ntmps139 rfl ?_
  simp
  refine callK.mk ent_pred_Same (CS.args e1 (by simp [zerP])) ?_
  simp
theorem ent_r38_zero : VM.Enters Tryz.prog 140 := VM.Enters.mk Tryz.func140 rfl
theorem r38_zero_cs (p : Pr) (h : nodP p ≤ 900000000) : CS Tryz.prog G 140 [.agg (prD p)] (.d (.bool (decide (p = zerP)))) none := by
  have e1 := r7_Same_cs (G := G) p zerP h
  rw [samP_dec] at e1
  refine CS.of_VK Tryz.func140 rfl Tryz.ntmps140 rfl ?_
  simp
  refine callK.mk ent_r7_Same (CS.args e1 (by simp [zerP])) ?_
  simp
/-! ### How many heads -/
theorem ent_constraint_Heads : VM.Enters Tryz.prog 57 := VM.Enters.mk Tryz.func57 rfl
theorem constraint_Heads_cs : ∀ c : Cn, wtC c ≤ 900000000 → CS Tryz.prog G 57 [.agg (cnD c)] (.d (.int .i64 (headsC c))) none := by
  refine Cn.ind fun c ih => ?_
  obtain ⟨op, nm, s, p, t, l⟩ := c
  intro hN
  simp only at ih
  have hn := wtC_eq ⟨op, nm, s, p, t, l⟩
  have hm := headsC_eq ⟨op, nm, s, p, t, l⟩
  have hle := headsCs_le l
  simp only at hn hm
  have hl := len_le_wtCs l
  refine CS.of_VK Tryz.func57 rfl Tryz.ntmps57 rfl ?_
  by_cases h3 : op = 3
  · simp [h3] at hm
    simp [h3, hm]
  · rw [if_neg h3] at hm
    simp [h3]
    refine SW.loopF (ι := { i : Nat // i ≤ l.length }) (fun i => [(3, .d (.int .i64 (headsCs (l.take i.1)))), (12, .d (.int .i64 i.1))]) (fun _ => [(1, cnO op nm s p t (.sl (l.map cnC)))]) (fun _ => []) (fun i => l.length - i.1) ⟨0, by simp⟩ (by simp [headsCs]) ?_
    rintro ⟨i, hi⟩
    by_cases hlt : i < l.length
    · have hg := cns_get hlt
      have hw := wrap64s (show i < 9223372036854775807 by omega)
      have hs := headsCs_step hlt
      have hb2 := wtCs_step hlt
      have hb3 := wtCs_take_le l (i + 1)
      have hb4 := headsCs_le (l.take (i + 1))
      have hw2 : IntKind.i64.wrap (((headsCs (l.take i) : Nat) : Int) + (headsC l[i] : Int)) = ((headsCs (l.take (i + 1)) : Nat) : Int) := by rw [wrap64 (by omega), hs]; omega
      simp [hlt, hg]
      refine callK.mk ent_constraint_Heads (ih l[i] (List.getElem_mem hlt) (by omega)) ?_
      simp
      exact Again.mk ⟨i + 1, hlt⟩ (by simp [hw, hw2]) (by simp; omega)
    · have : i = l.length := by omega
      subst this
      simp [hm]
/-! ### A copy -/
theorem ent_constraint_copied : VM.Enters Tryz.prog 99 := VM.Enters.mk Tryz.func99 rfl
theorem constraint_copied_cs : ∀ c : Cn, wtC c ≤ 900000000 → CS Tryz.prog G 99 [.agg (cnD c)] (.d (.agg (cnD c))) none := by
  refine Cn.ind fun c ih => ?_
  obtain ⟨op, nm, s, p, t, l⟩ := c
  intro hN
  simp only at ih
  have hn := wtC_eq ⟨op, nm, s, p, t, l⟩
  simp only at hn
  have hl := len_le_wtCs l
  have hcp := pred_SubstAll_nil (G := G) p (by omega)
  refine CS.of_VK Tryz.func99 rfl Tryz.ntmps99 rfl ?_
  simp
  refine callK.mk ent_pred_SubstAll hcp ?_
  simp
  refine SW.loopF (ι := { i : Nat // i ≤ l.length }) (fun i => [(15, .d (.int .i64 i.1))]) (fun i => [(1, cnO op nm s p t (.sl (l.map cnC))), (2, cnZ), (3, cnO op nm s p t (.sl ((l.take i.1).map cnC)))]) (fun _ => [(54, [.c 3 8])]) (fun i => l.length - i.1) ⟨0, by simp⟩ (by simp) ?_
  rintro ⟨i, hi⟩
  by_cases hlt : i < l.length
  · have hg := cns_get hlt
    have hw := wrap64s (show i < 9223372036854775807 by omega)
    have hs2 := map_stepC cnC hlt
    rw [cnC_eq] at hs2
    have h9 : ∀ (x : List D), x ∈ List.take i (List.map cnC l) → x.length = 9 := len_mem (by simp)
    have hb2 := wtCs_step hlt
    have hb3 := wtCs_take_le l (i + 1)
    simp [hlt, hg]
    refine ⟨lexOk.mk (by kernel_rfl), ?_⟩
    refine callK.mk ent_constraint_copied (ih l[i] (List.getElem_mem hlt) (by omega)) ?_
    simp
    refine stepK_len ⟨h9, by omega⟩ ?_
    simp
    exact Again.mk ⟨i + 1, hlt⟩ (by simp [hw, hs2]) (by simp; omega)
  · have : i = l.length := by omega
    subst this
    simp
/-! ### Joining -/
theorem andC_one {c : Cn} (h : c.op = 2 ∨ c.op = 3) : andC c = [c] := by rw [andC_eq, if_pos h]
theorem andC_kids {c : Cn} (h : ¬ (c.op = 2 ∨ c.op = 3)) : andC c = andCs c.kids := by rw [andC_eq, if_neg h]
theorem ent_constraint_And : VM.Enters Tryz.prog 55 := VM.Enters.mk Tryz.func55 rfl
theorem constraint_And_cs : ∀ (n : Nat) (l : List Cn), wtCs l ≤ n → n ≤ 900000000 → CS Tryz.prog G 55 [.sl (l.map cnC)] (.d (.agg (cnD ⟨1, [], [], zerP, 0, andCs l⟩))) none := by
  intro n
  induction n with
  | zero =>
    intro l hl _
    have := len_le_wtCs l
    have : l = [] := List.length_eq_zero_iff.1 (by omega)
    subst this
    refine CS.of_VK Tryz.func55 rfl Tryz.ntmps55 rfl ?_
    simp
    refine SW.loopF (ι := Unit) (fun i => [(9, .d (.int .i64 0))]) (fun i => [(2, cnZ), (3, cnO 1 [] [] zerP 0 .nils)]) (fun _ => []) (fun i => 0) () (by simp [zerP]) ?_
    rintro ⟨⟩
    simp [andCs, zerP]
  | succ n ihn =>
    intro l hl hn
    have hll := len_le_wtCs l
    refine CS.of_VK Tryz.func55 rfl Tryz.ntmps55 rfl ?_
    simp
    refine SW.loopF (ι := { i : Nat // i ≤ l.length }) (fun i => [(9, .d (.int .i64 i.1))]) (fun i => [(2, cnZ), (3, cnO 1 [] [] zerP 0 (.sl ((andCs (l.take i.1)).map cnC)))]) (fun _ => [(54, [.c 3 8])]) (fun i => l.length - i.1) ⟨0, by simp⟩ (by simp [zerP, andCs]) ?_
    rintro ⟨i, hi⟩
    by_cases hlt : i < l.length
    · have hg := cns_get hlt
      have hw := wrap64s (show i < 9223372036854775807 by omega)
      have hs := andCs_step hlt
      have hb2 := wtCs_step hlt
      have hb3 := wtCs_take_le l (i + 1)
      have hb4 := andCs_len (l.take i)
      have hb5 := nodCs_wt (l.take i)
      have hb6 := andC_len l[i]
      have hb7 := nodC_wt l[i]
      by_cases h23 : l[i].op = 2 ∨ l[i].op = 3
      · have ha := andC_one h23
        rw [ha] at hs
        have hcp := constraint_copied_cs (G := G) l[i] (by omega)
        rcases h23 with h2 | h3
        · simp [hlt, hg, h2]
          refine ⟨lexOk.mk (by kernel_rfl), ?_⟩
          rw [← h2]
          refine callK.mk ent_constraint_copied hcp ?_
          simp
          refine stepK_len (by omega) ?_
          simp
          exact Again.mk ⟨i + 1, hlt⟩ (by simp [hw, hs]) (by simp; omega)
        · simp [hlt, hg, h3]
          refine ⟨lexOk.mk (by kernel_rfl), ?_⟩
          rw [← h3]
          refine callK.mk ent_constraint_copied hcp ?_
          simp
          refine stepK_len (by omega) ?_
          simp
          exact Again.mk ⟨i + 1, hlt⟩ (by simp [hw, hs]) (by simp; omega)
      · have ha := andC_kids h23
        rw [ha] at hs hb6
        have h2 : ¬ l[i].op = 2 := fun e => h23 (.inl e)
        have h3 : ¬ l[i].op = 3 := fun e => h23 (.inr e)
        have hk := wtC_eq l[i]
        have := ihn l[i].kids (by omega) (by omega)
        simp [hlt, hg, h2, h3]
        refine ⟨lexOk.mk (by kernel_rfl), ?_⟩
        refine callK.mk ent_constraint_And this ?_
        simp
        refine stepK_len (by omega) ?_
        simp
        exact Again.mk ⟨i + 1, hlt⟩ (by simp [hw, hs]) (by simp; omega)
    · have : i = l.length := by omega
      subst this
      simp [zerP]
/-! ### Equality -/
theorem ent_r38_Same : VM.Enters Tryz.prog 60 := VM.Enters.mk Tryz.func60 rfl
theorem r38_Same_cs : ∀ t u : Cn, wtC t ≤ 900000000 → CS Tryz.prog G 60 [.agg (cnD t), .agg (cnD u)] (.d (.bool (samC t u))) none := by
  refine Cn.ind fun t ih => ?_
  obtain ⟨op, nm, s, p, tag, l⟩ := t
  intro u hN
  obtain ⟨op', nm', s', p', tag', l'⟩ := u
  simp only at ih
  have hn := wtC_eq ⟨op, nm, s, p, tag, l⟩
  have hq := samC_eq ⟨op, nm, s, p, tag, l⟩ ⟨op', nm', s', p', tag', l'⟩
  simp only at hn hq
  have hl := len_le_wtCs l
  have hsp := r7_Same_cs (G := G) p p' (by omega)
  refine CS.of_VK Tryz.func60 rfl Tryz.ntmps60 rfl ?_
  by_cases h1 : op = op'
  · by_cases h2 : nm = nm'
    · by_cases h3 : s = s'
      · by_cases h4 : tag = tag'
        · simp only [h1, h2, h3, h4, decide_true, Bool.true_and] at hq
          simp [h1, h2, h3, h4]
          refine callK.mk ent_r7_Same hsp ?_
          cases h5 : samP p p'
          · rw [h5, Bool.false_and] at hq
            simp [hq]
          · rw [h5, Bool.true_and] at hq
            by_cases h6 : l.length = l'.length
            · simp only [h6, decide_true, Bool.true_and] at hq
              simp [h6]
              refine SW.loopF (ι := { i : Nat // i ≤ l.length ∧ samCs (l.drop i) (l'.drop i) = samCs l l' }) (fun i => [(52, .d (.int .i64 i.1))]) (fun i => [(2, cnO op' nm' s' p tag' (.sl (l.map cnC))), (3, cnO op' nm' s' p' tag' (.sl (l'.map cnC)))]) (fun _ => []) (fun i => l.length - i.1) ⟨0, by simp⟩ (by simp) ?_
              rintro ⟨i, hi, hR⟩
              try simp only at hi hR
              by_cases hlt : i < l.length
              · have hlt' : i < l'.length := by omega
                have hg := cns_get hlt
                have hg' := cns_get hlt'
                have hw := wrap64s (show i < 9223372036854775807 by omega)
                have hb2 := wtCs_step hlt
                have hb3 := wtCs_take_le l (i + 1)
                rw [samCs_drop hlt hlt'] at hR
                simp [hlt', hlt, hg, hg']
                refine ⟨lexOk.mk (by kernel_rfl), ?_⟩
                refine callK.mk ent_r38_Same (ih l[i] (List.getElem_mem hlt) l'[i] (by omega)) ?_
                cases hs : samC l[i] l'[i]
                · rw [hs, Bool.false_and] at hR
                  simp [hs, hq, ← hR]
                · rw [hs, Bool.true_and] at hR
                  simp [hs]
                  exact Again.mk ⟨i + 1, hlt, hR⟩ (by simp [hw]) (by simp; omega)
              · have : i = l.length := by omega
                subst this
                rw [samCs_end] at hR
                simp [hq, ← hR, ← h6]
            · simp only [h6, decide_false, Bool.false_and] at hq
              have h6' : ¬ ((l.length : Int) = (l'.length : Int)) := by omega
              simp [h6, h6', hq]
        · simp only [h1, h2, h3, h4, decide_true, decide_false, Bool.true_and, Bool.false_and] at hq
          simp [h1, h2, h3, h4, hq]
      · simp only [h1, h2, h3, decide_true, decide_false, Bool.true_and, Bool.false_and] at hq
        simp [h1, h2, h3, hq]
    · simp only [h1, h2, decide_true, decide_false, Bool.true_and, Bool.false_and] at hq
      simp [h1, h2, hq]
  · simp only [h1, decide_false, Bool.false_and] at hq
    simp [h1, hq]
end Go.Proofs.YthikbenglkfioaaGreatDoor
