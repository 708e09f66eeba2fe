/- Constraints: the walks of the checks. No condition. -/
import Derived.Test.YthikbenglkfioaaGreatDoorPs
import Derived.Test.YthikbenglkfioaaGreatDoorCja
set_option linter.unusedVariables false
set_option linter.unusedSimpArgs false
set_option linter.unusedSectionVars false
namespace Go.Proofs.YthikbenglkfioaaGreatDoor
open Go Go.VM
set_option maxRecDepth 100000
set_option maxHeartbeats 8000000
variable {G : GT}
theorem nodP_big (p : Pr) : p.kids.length ≤ nodP p := by
  have := nodP_kids p
  have := len_le_nodPs p.kids
  omega
theorem ent_constraint_formed : VM.Enters Tryz.prog 96 := VM.Enters.mk Tryz.func96 rfl
theorem constraint_formed_cs (c : Cn) (h : nodP c.pred ≤ 900000000) (hl : c.kids.length ≤ 900000000) : CS Tryz.prog G 96 [.agg (cnD c)] (.d (.bool (formedB c.op c.name c.sort c.pred c.tag c.kids.length))) none := by
  obtain ⟨op, nm, s, p, t, l⟩ := c
  simp only at h hl
  have hz := constraint_zero_cs (G := G) p h
  refine CS.of_VK Tryz.func96 rfl Tryz.ntmps96 rfl ?_
  by_cases h1 : op = 1
  · by_cases n1 : nm = []
    rotate_left
    · simp [h1, n1, isEmpty_false n1, formedB]
    by_cases s1 : s = []
    rotate_left
    · simp [h1, n1, s1, isEmpty_false s1, formedB]
    simp [h1, n1, s1]
    refine callK.mk ent_constraint_zero hz ?_
    by_cases z1 : p = zerP
    · by_cases t1 : t = 0
      · simp [z1, t1, formedB]
      · simp [z1, t1, formedB]
    · simp [z1, formedB]
  by_cases h2 : op = 2
  · by_cases t1 : t = 0
    rotate_left
    · simp [h2, t1, formedB]
    by_cases l1 : l.length = 1
    rotate_left
    · have l2 : ¬ ((l.length : Int) = 1) := by omega
      simp [h2, t1, l1, l2, formedB]
    by_cases s1 : s = []
    · simp [h2, t1, l1, s1, formedB]
    · by_cases n1 : nm = []
      · simp [h2, t1, l1, s1, isEmpty_false s1, n1, formedB]
      · simp [h2, t1, l1, s1, isEmpty_false s1, n1, isEmpty_false n1, formedB]
  by_cases h3 : op = 3
  · by_cases n1 : nm = []
    rotate_left
    · simp [h3, n1, isEmpty_false n1, formedB]
    by_cases s1 : s = []
    rotate_left
    · simp [h3, n1, s1, isEmpty_false s1, formedB]
    by_cases l1 : l.length = 0
    · simp [h3, n1, s1, l1, formedB]
    · have l2 : ¬ ((l.length : Int) = 0) := by omega
      simp [h3, n1, s1, l1, l2, formedB]
  · simp [h1, h2, h3, formedB]
theorem ent_r38_right : VM.Enters Tryz.prog 97 := VM.Enters.mk Tryz.func97 rfl
theorem r38_right_cs (c : Cn) (h : nodP c.pred ≤ 900000000) (hl : c.kids.length ≤ 900000000) : CS Tryz.prog G 97 [.agg (cnD c)] (.d (.bool (formedB c.op c.name c.sort c.pred c.tag c.kids.length))) none := by
  obtain ⟨op, nm, s, p, t, l⟩ := c
  simp only at h hl
  have hz := r38_zero_cs (G := G) p h
  refine CS.of_VK Tryz.func97 rfl Tryz.ntmps97 rfl ?_
  by_cases h1 : op = 1
  · by_cases n1 : nm = []
    rotate_left
    · simp [h1, n1, isEmpty_false n1, formedB]
    by_cases s1 : s = []
    rotate_left
    · simp [h1, n1, s1, isEmpty_false s1, formedB]
    simp [h1, n1, s1]
    refine callK.mk ent_r38_zero hz ?_
    by_cases z1 : p = zerP
    · by_cases t1 : t = 0
      · simp [z1, t1, formedB]
      · simp [z1, t1, formedB]
    · simp [z1, formedB]
  by_cases h2 : op = 2
  · by_cases t1 : t = 0
    rotate_left
    · simp [h2, t1, formedB]
    by_cases l1 : l.length = 1
    rotate_left
    · have l2 : ¬ ((l.length : Int) = 1) := by omega
      simp [h2, t1, l1, l2, formedB]
    by_cases s1 : s = []
    · simp [h2, t1, l1, s1, formedB]
    · by_cases n1 : nm = []
      · simp [h2, t1, l1, s1, isEmpty_false s1, n1, formedB]
      · simp [h2, t1, l1, s1, isEmpty_false s1, n1, isEmpty_false n1, formedB]
  by_cases h3 : op = 3
  · by_cases n1 : nm = []
    rotate_left
    · simp [h3, n1, isEmpty_false n1, formedB]
    by_cases s1 : s = []
    rotate_left
    · simp [h3, n1, s1, isEmpty_false s1, formedB]
    by_cases l1 : l.length = 0
    · simp [h3, n1, s1, l1, formedB]
    · have l2 : ¬ ((l.length : Int) = 0) := by omega
      simp [h3, n1, s1, l1, l2, formedB]
  · simp [h1, h2, h3, formedB]
theorem ent_constraint_check : VM.Enters Tryz.prog 49 := VM.Enters.mk Tryz.func49 rfl
theorem constraint_check_cs (hG : G 0 = some kwCells) : ∀ (c : Cn) (v : EnvL), envE v = 0 → wtC c ≤ 1000000 → CS Tryz.prog G 49 [.agg (envC v), .agg (cnD c)] (.d (.int .i64 (chkC v c))) none := by
  refine Cn.ind fun c ih => ?_
  obtain ⟨op, nm, s, p, t, l⟩ := c
  intro v hv hN
  simp only at ih
  have hn := wtC_eq ⟨op, nm, s, p, t, l⟩
  have hm := chkC_eq v ⟨op, nm, s, p, t, l⟩
  simp only at hn hm
  have hl := len_le_wtCs l
  have hfo := constraint_formed_cs (G := G) ⟨op, nm, s, p, t, l⟩ (by simp only; omega) (by simp only; omega)
  simp only at hfo
  have hfv := fitE_of hv
  have hvl := hfv.vars
  simp only [envC, varsC_vr] at ⊢
  refine CS.of_VK Tryz.func49 rfl Tryz.ntmps49 rfl ?_
  simp
  refine callK.mk ent_constraint_formed hfo ?_
  cases hf : formedB op nm s p t l.length
  · simp [hf] at hm
    simp [hm]
  simp only [hf, if_true] at hm
  by_cases h2 : op = 2 ∧ nm ≠ []
  · obtain ⟨h2, hne⟩ := h2
    subst h2
    have hne' := isEmpty_false hne
    have hwe : withE v 2 nm s = ⟨v.vars ++ [(nm, s)], v.syms, v.holes⟩ := by simp [withE, hne]
    have hcl := cloneVr_cs (G := G) v.vars (by omega)
    have hE := s_Env_cs (G := G) hG ⟨v.vars ++ [(nm, s)], v.syms, v.holes⟩
    have hsz : (v.vars.length + 1) * 33 ≤ 140737488355328 := by omega
    simp only [envC, varsC_vr] at hE
    rw [hwe] at hm
    simp [hne, hne']
    refine ⟨lexOk.mk (by kernel_rfl), ?_⟩
    refine callK.mk ent_cloneVr hcl ?_
    simp [hsz]
    simp at hE
    refine callK.mk ent_s_Env hE ?_
    by_cases he : envE ⟨v.vars ++ [(nm, s)], v.syms, v.holes⟩ = 0
    rotate_left
    · rw [if_neg he] at hm
      simp [he, hm]
    rw [if_pos he] at hm
    have hB := sorting_Bool_cs (G := G) hG ⟨v.vars ++ [(nm, s)], v.syms, v.holes⟩ (fitE_of he) p (by omega)
    simp only [envC, varsC_vr] at hB
    simp at hB
    simp [he]
    refine callK.mk ent_sorting_Bool hB ?_
    by_cases hb : boolE ⟨v.vars ++ [(nm, s)], v.syms, v.holes⟩ p = 0
    rotate_left
    · rw [if_neg hb] at hm
      simp [hb, hm]
    rw [if_pos hb] at hm
    simp [hb]
    refine SW.loopF (ι := { i : Nat // i ≤ l.length ∧ chkCs (⟨v.vars ++ [(nm, s)], v.syms, v.holes⟩) (l.drop i) = chkCs (⟨v.vars ++ [(nm, s)], v.syms, v.holes⟩) l }) (fun i => [(47, .d (.int .i64 i.1))]) (fun _ => [(2, .cells [.d (.sl ((v.vars ++ [(nm, s)]).map vrC)), .d (.sl (symsC v.syms)), .d (.sl (holesC v.holes))]), (3, cnO 2 nm s p t (.sl (l.map cnC)))]) (fun _ => []) (fun i => l.length - i.1) ⟨0, by simp⟩ (by simp [varsC_vr]) ?_
    rintro ⟨i, hi, hR⟩
    try simp only at hi hR
    by_cases hlt : i < l.length
    · have hg := cns_get hlt
      have hw := wrap64s (show i < 9223372036854775807 by omega)
      have hb2 := wtCs_step hlt
      have hb3 := wtCs_take_le l (i + 1)
      have hc := ih l[i] (List.getElem_mem hlt) (⟨v.vars ++ [(nm, s)], v.syms, v.holes⟩) (by first | assumption | omega) (by omega)
      rw [chkCs_at hlt] at hR
      simp only [envC, varsC_vr, List.map_append, List.map_cons, List.map_nil, vrC] at hc
      simp [hlt, hg, varsC_vr]
      refine callK.mk ent_constraint_check hc ?_
      by_cases hk : chkC (⟨v.vars ++ [(nm, s)], v.syms, v.holes⟩) l[i] = 0
      · rw [if_pos hk] at hR
        simp [hk]
        exact Again.mk ⟨i + 1, hlt, hR⟩ (by simp [hw, varsC_vr]) (by simp; omega)
      · rw [if_neg hk] at hR
        rw [← hR] at hm
        simp [hk, hm]
    · have : i = l.length := by omega
      subst this
      rw [List.drop_length, chkCs] at hR
      rw [← hR] at hm
      simp [hm]
  · have hwe : withE v op nm s = v := by simp only [withE, if_neg h2]
    rw [hwe, if_pos hv] at hm
    have hB := sorting_Bool_cs (G := G) hG v hfv p (by omega)
    simp only [envC, varsC_vr] at hB
    by_cases o2 : op = 2
    · have hne : nm = [] := by
        by_cases hne : nm = []
        · exact hne
        · exact absurd ⟨o2, hne⟩ h2
      subst hne
      subst o2
      simp
      refine callK.mk ent_sorting_Bool hB ?_
      by_cases hb : boolE v p = 0
      rotate_left
      · rw [if_neg hb] at hm
        simp [hb, hm]
      rw [if_pos hb] at hm
      simp [hb]
      refine SW.loopF (ι := { i : Nat // i ≤ l.length ∧ chkCs (v) (l.drop i) = chkCs (v) l }) (fun i => [(47, .d (.int .i64 i.1))]) (fun _ => [(2, .cells [.d (.sl (v.vars.map vrC)), .d (.sl (symsC v.syms)), .d (.sl (holesC v.holes))]), (3, cnO 2 [] s p t (.sl (l.map cnC)))]) (fun _ => []) (fun i => l.length - i.1) ⟨0, by simp⟩ (by simp [varsC_vr]) ?_
      rintro ⟨i, hi, hR⟩
      try simp only at hi hR
      by_cases hlt : i < l.length
      · have hg := cns_get hlt
        have hw := wrap64s (show i < 9223372036854775807 by omega)
        have hb2 := wtCs_step hlt
        have hb3 := wtCs_take_le l (i + 1)
        have hc := ih l[i] (List.getElem_mem hlt) (v) (by first | assumption | omega) (by omega)
        rw [chkCs_at hlt] at hR
        simp only [envC, varsC_vr, List.map_append, List.map_cons, List.map_nil, vrC] at hc
        simp [hlt, hg, varsC_vr]
        refine callK.mk ent_constraint_check hc ?_
        by_cases hk : chkC (v) l[i] = 0
        · rw [if_pos hk] at hR
          simp [hk]
          exact Again.mk ⟨i + 1, hlt, hR⟩ (by simp [hw, varsC_vr]) (by simp; omega)
        · rw [if_neg hk] at hR
          rw [← hR] at hm
          simp [hk, hm]
      · have : i = l.length := by omega
        subst this
        rw [List.drop_length, chkCs] at hR
        rw [← hR] at hm
        simp [hm]
    · simp [o2]
      refine callK.mk ent_sorting_Bool hB ?_
      by_cases hb : boolE v p = 0
      rotate_left
      · rw [if_neg hb] at hm
        simp [hb, hm]
      rw [if_pos hb] at hm
      simp [hb]
      refine SW.loopF (ι := { i : Nat // i ≤ l.length ∧ chkCs (v) (l.drop i) = chkCs (v) l }) (fun i => [(47, .d (.int .i64 i.1))]) (fun _ => [(2, .cells [.d (.sl (v.vars.map vrC)), .d (.sl (symsC v.syms)), .d (.sl (holesC v.holes))]), (3, cnO op nm s p t (.sl (l.map cnC)))]) (fun _ => []) (fun i => l.length - i.1) ⟨0, by simp⟩ (by simp [varsC_vr]) ?_
      rintro ⟨i, hi, hR⟩
      try simp only at hi hR
      by_cases hlt : i < l.length
      · have hg := cns_get hlt
        have hw := wrap64s (show i < 9223372036854775807 by omega)
        have hb2 := wtCs_step hlt
        have hb3 := wtCs_take_le l (i + 1)
        have hc := ih l[i] (List.getElem_mem hlt) (v) (by first | assumption | omega) (by omega)
        rw [chkCs_at hlt] at hR
        simp only [envC, varsC_vr, List.map_append, List.map_cons, List.map_nil, vrC] at hc
        simp [hlt, hg, varsC_vr]
        refine callK.mk ent_constraint_check hc ?_
        by_cases hk : chkC (v) l[i] = 0
        · rw [if_pos hk] at hR
          simp [hk]
          exact Again.mk ⟨i + 1, hlt, hR⟩ (by simp [hw, varsC_vr]) (by simp; omega)
        · rw [if_neg hk] at hR
          rw [← hR] at hm
          simp [hk, hm]
      · have : i = l.length := by omega
        subst this
        rw [List.drop_length, chkCs] at hR
        rw [← hR] at hm
        simp [hm]
theorem ent_constraint_Check : VM.Enters Tryz.prog 19 := VM.Enters.mk Tryz.func19 rfl
theorem constraint_Check_cs (hG : G 0 = some kwCells) (c : Cn) (v : EnvL) (hN : wtC c ≤ 1000000) : CS Tryz.prog G 19 [.agg (envC v), .agg (cnD c)] (.d (.int .i64 (chkTop v c))) none := by
  have hE := s_Env_cs (G := G) hG v
  simp only [envC] at hE ⊢
  refine CS.of_VK Tryz.func19 rfl Tryz.ntmps19 rfl ?_
  simp
  refine callK.mk ent_s_Env hE ?_
  by_cases h0 : envE v = 0
  · have hc := constraint_check_cs (G := G) hG c v h0 hN
    simp only [envC] at hc
    simp [h0]
    refine callK.mk ent_constraint_check hc ?_
    simp [chkTop, h0]
  · simp [h0, chkTop]
theorem ent_r38_with : VM.Enters Tryz.prog 98 := VM.Enters.mk Tryz.func98 rfl
theorem r38_with_cs (v : EnvL) (hv : v.vars.length ≤ 1000000) (c : Cn) : CS Tryz.prog G 98 [.agg (envC v), .agg (cnD c)] (.d (.agg (envC (withE v c.op c.name c.sort)))) none := by
  obtain ⟨op, nm, s, p, t, l⟩ := c
  simp only [envC, varsC_vr]
  refine CS.of_VK Tryz.func98 rfl Tryz.ntmps98 rfl ?_
  by_cases o2 : op = 2
  · by_cases hne : nm = []
    · simp [o2, hne, withE]
    · have hne' := isEmpty_false hne
      have hsz : v.vars.length * 33 ≤ 140737488355328 := by omega
      have hsz2 : (v.vars.length + 1) * 33 ≤ 140737488355328 := by omega
      simp [o2, hne, hne', hsz, hsz2, withE]
      try exact lexOk.mk (by kernel_rfl)
  · simp [o2, withE]
theorem ent_r38_form : VM.Enters Tryz.prog 50 := VM.Enters.mk Tryz.func50 rfl
theorem r38_form_cs : ∀ (c : Cn) (v : EnvL), envE v = 0 → wtC c ≤ 1000000 → CS Tryz.prog G 50 [.agg (envC v), .agg (cnD c)] (.d (.int .i64 (chkC v c))) none := by
  refine Cn.ind fun c ih => ?_
  obtain ⟨op, nm, s, p, t, l⟩ := c
  intro v hv hN
  simp only at ih
  have hn := wtC_eq ⟨op, nm, s, p, t, l⟩
  have hm := chkC_eq v ⟨op, nm, s, p, t, l⟩
  simp only at hn hm
  have hl := len_le_wtCs l
  have hfo := r38_right_cs (G := G) ⟨op, nm, s, p, t, l⟩ (by simp only; omega) (by simp only; omega)
  simp only at hfo
  have hfv := fitE_of hv
  have hvl := hfv.vars
  have hwi := r38_with_cs (G := G) v hvl ⟨op, nm, s, p, t, l⟩
  simp only at hwi
  obtain ⟨w, hwe⟩ : ∃ w, withE v op nm s = w := ⟨_, rfl⟩
  rw [hwe] at hwi hm
  have hE := r6_Env_cs (G := G) w
  simp only [envC, varsC_vr] at hwi hE ⊢
  refine CS.of_VK Tryz.func50 rfl Tryz.ntmps50 rfl ?_
  simp
  refine callK.mk ent_r38_right hfo ?_
  cases hf : formedB op nm s p t l.length
  · simp [hf] at hm
    simp [hm]
  simp only [hf, if_true] at hm
  simp
  refine callK.mk ent_r38_with hwi ?_
  simp
  refine callK.mk ent_r6_Env hE ?_
  by_cases he : envE w = 0
  rotate_left
  · rw [if_neg he] at hm
    simp [he, hm]
  rw [if_pos he] at hm
  have hB := r9_Bool_cs (G := G) w (fitE_of he) p (by omega)
  simp only [envC, varsC_vr] at hB
  simp [he]
  refine callK.mk ent_r9_Bool hB ?_
  by_cases hb : boolE w p = 0
  rotate_left
  · rw [if_neg hb] at hm
    simp [hb, hm]
  rw [if_pos hb] at hm
  simp [hb]
  refine SW.loopF (ι := { i : Nat // i ≤ l.length ∧ chkCs (w) (l.drop i) = chkCs (w) l }) (fun i => [(32, .d (.int .i64 i.1))]) (fun _ => [(3, cnO op nm s p t (.sl (l.map cnC))), (5, .cells [.d (.sl (w.vars.map vrC)), .d (.sl (symsC w.syms)), .d (.sl (holesC w.holes))])]) (fun _ => []) (fun i => l.length - i.1) ⟨0, by simp⟩ (by simp [varsC_vr]) ?_
  rintro ⟨i, hi, hR⟩
  try simp only at hi hR
  by_cases hlt : i < l.length
  · have hg := cns_get hlt
    have hw := wrap64s (show i < 9223372036854775807 by omega)
    have hb2 := wtCs_step hlt
    have hb3 := wtCs_take_le l (i + 1)
    have hc := ih l[i] (List.getElem_mem hlt) (w) (by first | assumption | omega) (by omega)
    rw [chkCs_at hlt] at hR
    simp only [envC, varsC_vr, List.map_append, List.map_cons, List.map_nil, vrC] at hc
    simp [hlt, hg, varsC_vr]
    refine callK.mk ent_r38_form hc ?_
    by_cases hk : chkC (w) l[i] = 0
    · rw [if_pos hk] at hR
      simp [hk]
      exact Again.mk ⟨i + 1, hlt, hR⟩ (by simp [hw, varsC_vr]) (by simp; omega)
    · rw [if_neg hk] at hR
      rw [← hR] at hm
      simp [hk, hm]
  · have : i = l.length := by omega
    subst this
    rw [List.drop_length, chkCs] at hR
    rw [← hR] at hm
    simp [hm]
theorem ent_r38_Check : VM.Enters Tryz.prog 20 := VM.Enters.mk Tryz.func20 rfl
theorem r38_Check_cs (c : Cn) (v : EnvL) (hN : wtC c ≤ 1000000) : CS Tryz.prog G 20 [.agg (envC v), .agg (cnD c)] (.d (.int .i64 (chkTop v c))) none := by
  have hE := r6_Env_cs (G := G) v
  simp only [envC] at hE ⊢
  refine CS.of_VK Tryz.func20 rfl Tryz.ntmps20 rfl ?_
  simp
  refine callK.mk ent_r6_Env hE ?_
  by_cases h0 : envE v = 0
  · have hc := r38_form_cs (G := G) c v h0 hN
    simp only [envC] at hc
    simp [h0]
    refine callK.mk ent_r38_form hc ?_
    simp [chkTop, h0]
  · simp [h0, chkTop]
def smallE (v : EnvL) : Bool := decide (v.vars.length ≤ 40) && (decide (v.syms.length ≤ 40) && decide (v.holes.length ≤ 40))
theorem ent_l38_small : VM.Enters Tryz.prog 18 := VM.Enters.mk Tryz.func18 rfl
theorem l38_small_cs (v : EnvL) : CS Tryz.prog G 18 [.agg (envC v)] (.d (.bool (smallE v))) none := by
  simp only [envC]
  refine CS.of_VK Tryz.func18 rfl Tryz.ntmps18 rfl ?_
  by_cases h1 : v.vars.length ≤ 40
  · by_cases h2 : v.syms.length ≤ 40
    · by_cases h3 : v.holes.length ≤ 40
      · simp [varsC_vr, symsC, holesC, h1, h2, h3, smallE]
      · simp [varsC_vr, symsC, holesC, h1, h2, h3, smallE]
    · simp [varsC_vr, symsC, holesC, h1, h2, smallE]
  · simp [varsC_vr, symsC, holesC, h1, smallE]
end Go.Proofs.YthikbenglkfioaaGreatDoor
