/- Constraints: the walks of flattening. No condition. -/
import Derived.Test.YthikbenglkfioaaGreatDoorCd
set_option linter.unusedVariables false
set_option linter.unusedSimpArgs false
set_option linter.unusedSectionVars false
namespace Go.VM
open Go
/-- A contract for arguments that read more finely. -/
theorem CH.coarse {P : Program} {G : GT} {f : FuncId} {tmps tmps' : List DV} {H : List (Nat × AObj)} {own : List (TypeId × List Loc)} {s1 : St} (h : CH P G f ⟨tmps', H, own⟩ s1) (hl : tmps.length = tmps'.length)
    (hw : ∀ (i : Nat) (d d' : DV), tmps[i]? = some d → tmps'[i]? = some d' → WkDV d d') : CH P G f ⟨tmps, H, own⟩ s1 := fun base R μ args w hr => h base R μ args w (by
  obtain ⟨vs, hvs⟩ := hr.own
  refine ⟨hr.defers, by rw [hr.size]; exact hl, fun i v d' hv hd' => ?_, hr.objs, hr.inj, hr.locs, ⟨vs, hvs.len, fun i c v hc hv => ?_, hvs.apart⟩, hr.glob, hr.rset, hr.base, hr.pass⟩
  · have hi : i < tmps.length := by rw [hl]; exact (List.getElem?_eq_some_iff.1 hd').1
    have hd := List.getElem?_eq_getElem hi
    exact (hr.tmps i v _ hv hd).wk (hw i _ d' hd hd')
  · have o := hvs.one i c v hc hv
    exact ⟨o.locs, o.own, o.keys⟩)
end Go.VM
namespace Go.Proofs.YthikbenglkfioaaGreatDoor
open Go Go.VM
set_option maxRecDepth 100000
set_option maxHeartbeats 8000000
variable {G : GT}
theorem ent_cloneVr : Enters Tryz.prog 77 := Enters.mk Tryz.func77 rfl
theorem cloneVr_cs (l : List Vr) (hl : l.length ≤ 900000000) : CS Tryz.prog G 77 [.sl (l.map vrC)] (.d (.sl (l.map vrC))) (some 45) := by
  refine CS.of_VK Tryz.func77 rfl Tryz.ntmps77 rfl ?_
  have hsz : l.length * 33 ≤ 140737488355328 := by omega
  by_cases h0 : l = []
  · subst h0
    simp
  · have h1 : ¬ l.length = 0 := fun h => h0 (List.eq_nil_of_length_eq_zero h)
    simp [h0, h1, hsz]
theorem ent_clonePr : Enters Tryz.prog 104 := Enters.mk Tryz.func104 rfl
theorem clonePr_cs (l : List Pr) (hl : l.length ≤ 900000000) : CS Tryz.prog G 104 [.sl (l.map prC)] (.d (.sl (l.map prC))) (some 30) := by
  refine CS.of_VK Tryz.func104 rfl Tryz.ntmps104 rfl ?_
  have hsz : l.length * 57 ≤ 140737488355328 := by omega
  by_cases h0 : l = []
  · subst h0
    simp
  · have h1 : ¬ l.length = 0 := fun h => h0 (List.eq_nil_of_length_eq_zero h)
    simp [h0, h1, hsz]
mutual
theorem split_nod : ∀ (p q : Pr), q ∈ splitP p → nodP q ≤ nodP p
  | ⟨op, nm, n, l⟩, q, h => by
    by_cases hh : op = 15 ∧ l.length = 2
    · match l, hh with
      | [a, b], ⟨h15, _⟩ =>
        subst h15
        rw [splitP_and] at h
        simp only [nodP, nodPs]
        rcases List.mem_append.1 h with h | h
        · have := split_nod a q h
          omega
        · have := split_nod b q h
          omega
    · rw [splitP_other (p := ⟨op, nm, n, l⟩) hh] at h
      split at h
      · simp at h
      · simp at h
        subst h
        exact Nat.le_refl _
end
theorem hypsC2_mem {c : Cn} {hs : List Pr} {M : Nat} (h1 : ∀ h ∈ hs, nodP h ≤ M) (h2 : nodP c.pred ≤ M) : ∀ h ∈ hypsC2 c hs, nodP h ≤ M := by
  intro h hh
  unfold hypsC2 at hh
  split at hh
  · rcases List.mem_append.1 hh with hh | hh
    · exact h1 h hh
    · have := split_nod _ _ hh
      omega
  · exact h1 h hh
theorem hypsC2_len (c : Cn) (hs : List Pr) : (hypsC2 c hs).length ≤ hs.length + nodP c.pred := by
  have := split_len c.pred
  unfold hypsC2
  split <;> simp <;> omega
theorem varsC2_len (c : Cn) (vs : List Vr) : (varsC2 c vs).length ≤ vs.length + 1 := by
  unfold varsC2
  split <;> simp
/-- The clause above, as an object. -/
abbrev abO (vs : List Vr) (hs : List Pr) : AObj := .cells [.d (.sl (vs.map vrC)), .d (.sl (hs.map prC)), .d (.int .i64 0), .d (.str []), .d (.int .i64 0), .d (.sl []), .d (.int .i64 0)]
/-- The loop over the kids. -/
theorem ent_constraint_flat : VM.Enters Tryz.prog 61 := VM.Enters.mk Tryz.func61 rfl
theorem constraint_flat_ch : ∀ (c : Cn) (vs : List Vr) (hs : List Pr) (acc : List Cl), acc.length + wtC c ≤ 900000000 → vs.length + wtC c ≤ 900000000 → hs.length + wtC c ≤ 900000000 → (∀ h ∈ hs, nodP h ≤ 900000000) →
    CH Tryz.prog G 61 ⟨[.d (.agg (cnD c)), .d (.agg (clD ⟨vs, hs, zerP, 0⟩)), .d (.sl (acc.map clC))], [], [(61, [.t 2])]⟩ ⟨[.d (.sl ((acc ++ flatC c vs hs).map clC))], [], [(61, [.t 0])]⟩ := by
  refine Cn.ind fun c ih => ?_
  intro vs hs acc h1 h2 h3 h4
  have hh2 := hypsC2_mem (c := c) h4 (by have := wtC_eq c; omega)
  have hl2 := hypsC2_len c hs
  have hl3 := varsC2_len c vs
  obtain ⟨op, nm, s, p, t, l⟩ := c
  simp only at ih hl2
  have hn := wtC_eq ⟨op, nm, s, p, t, l⟩
  have hm := flatC_eq ⟨op, nm, s, p, t, l⟩ vs hs
  simp only at hn hm
  have hl := len_le_wtCs l
  have hspl := split_len p
  refine CH.of_VK Tryz.func61 rfl Tryz.ntmps61 rfl (by simp) ?_
  by_cases h3' : op = 3
  · subst h3'
    rw [if_pos rfl] at hm
    simp [zerP]
    refine callK.mk ent_pred_Split (pred_Split_cs p (by omega)) ?_
    obtain ⟨qs, hqs⟩ : ∃ qs, splitP p = qs := ⟨_, rfl⟩
    have hqn : ∀ q ∈ qs, nodP q ≤ 900000000 := fun q hq => by have := split_nod p q (by rw [hqs]; exact hq); omega
    rw [hqs] at hm hspl
    simp [hqs]
    refine SW.loopF (ι := { i : Nat // i ≤ qs.length }) (fun i => [(2, .d (.sl ((acc ++ (qs.take i.1).map fun q => (⟨vs, hs, q, t⟩ : Cl)).map clC))), (22, .d (.int .i64 i.1))]) (fun _ => [(3, cnO 3 nm s p t (.sl (l.map cnC))), (4, abO vs hs)]) (fun _ => [(61, [.t 2])]) (fun i => qs.length - i.1) ⟨0, by simp⟩ (by simp) ?_
    rintro ⟨i, hi⟩
    by_cases hlt : i < qs.length
    · have hg := prs_get hlt
      have hw := wrap64s (show i < 9223372036854775807 by omega)
      have hs2 := map_stepC (clC ∘ fun q => (⟨vs, hs, q, t⟩ : Cl)) hlt
      have hcv := cloneVr_cs (G := G) vs (by omega)
      have h7 : ∀ (x : List D), x ∈ List.take i (List.map (clC ∘ fun q => (⟨vs, hs, q, t⟩ : Cl)) qs) → x.length = 7 := len_mem (by simp)
      have hmin : min i qs.length = i := by omega
      simp [hlt, hg]
      refine ⟨lexOk.mk (by kernel_rfl), ?_⟩
      refine callK.mk ent_cloneVr hcv ?_
      simp
      refine SW.loopF (ι := { j : Nat // j ≤ hs.length }) (fun j => [(36, .d (.int .i64 j.1))]) (fun j => [(3, cnO 3 nm s p t (.sl (l.map cnC))), (4, abO vs hs), (9, .cells [.d (.sl (vs.map vrC)), .d (.sl ((hs.take j.1).map prC)), .d (.int .i64 qs[i].op), .d (.str qs[i].name), .d (.int .i64 qs[i].n), .d (.sl (qs[i].kids.map prC)), .d (.int .i64 t)])]) (fun _ => [(61, [.t 2]), (30, [.c 9 1])]) (fun j => hs.length - j.1) ⟨0, by simp⟩ (by simp) ?_
      rintro ⟨j, hj⟩
      by_cases hltj : j < hs.length
      · have hgj := prs_get hltj
        have hwj := wrap64s (show j < 9223372036854775807 by omega)
        have hsj := map_stepC prC hltj
        rw [prC_eq] at hsj
        have h4j : ∀ (x : List D), x ∈ List.take j (List.map prC hs) → x.length = 4 := len_mem (by simp)
        have hcp := pred_SubstAll_nil (G := G) hs[j] (h4 _ (List.getElem_mem hltj))
        simp [hltj, hgj]
        refine ⟨lexOk.mk (by kernel_rfl), ?_⟩
        refine callK.mk ent_pred_SubstAll hcp ?_
        simp
        refine stepK_len ⟨h4j, by omega⟩ ?_
        simp
        exact Again.mk ⟨j + 1, hltj⟩ (by simp [hwj, hsj]) (by simp; omega)
      · have : j = hs.length := by omega
        subst this
        simp
        simp at hs2 h7
        refine stepK_len ⟨h7, by omega⟩ ?_
        simp
        exact Again.mk ⟨i + 1, hlt⟩ (by simp [hw, hs2]) (by simp; omega)
    · have : i = qs.length := by omega
      subst this
      simp [hm]
  · rw [if_neg h3'] at hm
    by_cases ho2 : op = 2
    · subst ho2
      have hcp := clonePr_cs (G := G) hs (by omega)
      have hsp := pred_Split_cs (G := G) p (by omega)
      have hhe : hypsC2 ⟨2, nm, s, p, t, l⟩ hs = hs ++ splitP p := by simp [hypsC2]
      rw [hhe] at hm hh2 hl2
      by_cases hne : nm = []
      · subst hne
        have hve : varsC2 ⟨2, [], s, p, t, l⟩ vs = vs := by simp [varsC2]
        rw [hve] at hm hl3
        simp [zerP]
        refine ⟨lexOk.mk (by kernel_rfl), ?_⟩
        refine callK.mk ent_clonePr hcp ?_
        simp
        refine callK.mk ent_pred_Split hsp ?_
        simp
        refine stepK_len (by omega) ?_
        simp
        refine SW.loopF (ι := { i : Nat // i ≤ l.length }) (fun i => [(2, .d (.sl ((acc ++ flatCs (l.take i.1) (vs) (hs ++ splitP p)).map clC))), (81, .d (.int .i64 i.1))]) (fun _ => [(3, cnO 2 [] s p t (.sl (l.map cnC))), (4, abO (vs) (hs ++ splitP p))]) (fun _ => [(61, [.t 2])]) (fun i => l.length - i.1) ⟨0, by simp⟩ (by simp [flatCs]) ?_
        rintro ⟨i, hi⟩
        by_cases hlt : i < l.length
        · have hg := cns_get hlt
          have hw := wrap64s (show i < 9223372036854775807 by omega)
          have hsx := flatCs_step hlt (vs) (hs ++ splitP p)
          have hb := flatCs_len (l.take i) (vs) (hs ++ splitP p)
          have hb2 := wtCs_step hlt
          have hb3 := wtCs_take_le l (i + 1)
          simp [hlt, hg]
          refine callK.own ent_constraint_flat (ih l[i] (List.getElem_mem hlt) (vs) (hs ++ splitP p) (acc ++ flatCs (l.take i) (vs) (hs ++ splitP p)) (by rw [List.length_append]; omega) (by omega) (by omega) hh2) (by simp [zerP]) (by simp [zerP]) (by simp) (by simp; rfl) (by simp) ?_
          simp
          exact Again.mk ⟨i + 1, hlt⟩ (by simp [hw, hsx]) (by simp; omega)
        · have : i = l.length := by omega
          subst this
          simp [hm]
      · have hve : varsC2 ⟨2, nm, s, p, t, l⟩ vs = vs ++ [(nm, s)] := by simp [varsC2, hne]
        rw [hve] at hm hl3
        have hcv := cloneVr_cs (G := G) vs (by omega)
        have hne' : nm.isEmpty = false := by cases nm <;> simp at hne ⊢
        simp [hne, hne', zerP]
        refine ⟨lexOk.mk (by kernel_rfl), ?_⟩
        refine callK.mk ent_cloneVr hcv ?_
        simp
        refine stepK_len (by omega) ?_
        simp
        refine ⟨lexOk.mk (by kernel_rfl), ?_⟩
        refine callK.mk ent_clonePr hcp ?_
        simp
        refine callK.mk ent_pred_Split hsp ?_
        simp
        refine stepK_len (by omega) ?_
        simp
        refine SW.loopF (ι := { i : Nat // i ≤ l.length }) (fun i => [(2, .d (.sl ((acc ++ flatCs (l.take i.1) (vs ++ [(nm, s)]) (hs ++ splitP p)).map clC))), (81, .d (.int .i64 i.1))]) (fun _ => [(3, cnO 2 nm s p t (.sl (l.map cnC))), (4, abO (vs ++ [(nm, s)]) (hs ++ splitP p))]) (fun _ => [(61, [.t 2])]) (fun i => l.length - i.1) ⟨0, by simp⟩ (by simp [flatCs]) ?_
        rintro ⟨i, hi⟩
        by_cases hlt : i < l.length
        · have hg := cns_get hlt
          have hw := wrap64s (show i < 9223372036854775807 by omega)
          have hsx := flatCs_step hlt (vs ++ [(nm, s)]) (hs ++ splitP p)
          have hb := flatCs_len (l.take i) (vs ++ [(nm, s)]) (hs ++ splitP p)
          have hb2 := wtCs_step hlt
          have hb3 := wtCs_take_le l (i + 1)
          simp [hlt, hg]
          refine callK.own ent_constraint_flat (ih l[i] (List.getElem_mem hlt) (vs ++ [(nm, s)]) (hs ++ splitP p) (acc ++ flatCs (l.take i) (vs ++ [(nm, s)]) (hs ++ splitP p)) (by rw [List.length_append]; omega) (by omega) (by omega) hh2) (by simp [zerP]) (by simp [zerP]) (by simp) (by simp; rfl) (by simp) ?_
          simp
          exact Again.mk ⟨i + 1, hlt⟩ (by simp [hw, hsx]) (by simp; omega)
        · have : i = l.length := by omega
          subst this
          simp [hm]
    · have hhe : hypsC2 ⟨op, nm, s, p, t, l⟩ hs = hs := by simp [hypsC2, ho2]
      have hve : varsC2 ⟨op, nm, s, p, t, l⟩ vs = vs := by simp [varsC2, ho2]
      rw [hhe, hve] at hm
      rw [hhe] at hh2 hl2
      simp [h3', ho2, zerP]
      refine SW.loopF (ι := { i : Nat // i ≤ l.length }) (fun i => [(2, .d (.sl ((acc ++ flatCs (l.take i.1) (vs) (hs)).map clC))), (81, .d (.int .i64 i.1))]) (fun _ => [(3, cnO op nm s p t (.sl (l.map cnC))), (4, abO (vs) (hs))]) (fun _ => [(61, [.t 2])]) (fun i => l.length - i.1) ⟨0, by simp⟩ (by simp [flatCs]) ?_
      rintro ⟨i, hi⟩
      by_cases hlt : i < l.length
      · have hg := cns_get hlt
        have hw := wrap64s (show i < 9223372036854775807 by omega)
        have hsx := flatCs_step hlt (vs) (hs)
        have hb := flatCs_len (l.take i) (vs) (hs)
        have hb2 := wtCs_step hlt
        have hb3 := wtCs_take_le l (i + 1)
        simp [hlt, hg]
        refine callK.own ent_constraint_flat (ih l[i] (List.getElem_mem hlt) (vs) (hs) (acc ++ flatCs (l.take i) (vs) (hs)) (by rw [List.length_append]; omega) (by omega) (by omega) hh2) (by simp [zerP]) (by simp [zerP]) (by simp) (by simp; rfl) (by simp) ?_
        simp
        exact Again.mk ⟨i + 1, hlt⟩ (by simp [hw, hsx]) (by simp; omega)
      · have : i = l.length := by omega
        subst this
        simp [hm]
/-! ### From nothing -/
theorem constraint_flat_nil (c : Cn) (h : wtC c ≤ 900000000) : CH Tryz.prog G 61 ⟨[.d (.agg (cnD c)), .d (.agg [.nils, .nils, .int .i64 0, .str [], .int .i64 0, .nils, .int .i64 0]), .d .nils], [], []⟩ ⟨[.d (.sl ((flatC c [] []).map clC))], [], [(61, [.t 0])]⟩ := by
  have h0 := constraint_flat_ch (G := G) c [] [] [] (by simpa using h) (by simpa using h) (by simpa using h) (by simp)
  simp [zerP] at h0
  have h1 : CH Tryz.prog G 61 ⟨[.d (.agg (cnD c)), .d (.agg [.sl [], .sl [], .int .i64 0, .str [], .int .i64 0, .sl [], .int .i64 0]), .d .nils], [], []⟩ ⟨[.d (.sl ((flatC c [] []).map clC))], [], [(61, [.t 0])]⟩ :=
    fun base R μ args w hr => h0 base R μ args w (hr.weak ⟨by simp, by simp, by simp, by simp [keysIn]⟩)
  refine CH.coarse h1 rfl fun i d d' hd hd' => ?_
  match i, hd, hd' with
  | 0, hd, hd' => simp at hd hd'; subst hd hd'; simp
  | 1, hd, hd' => simp at hd hd'; subst hd hd'; simp
  | 2, hd, hd' => simp at hd hd'; subst hd hd'; simp
  | i + 3, hd, _ => simp at hd
theorem ent_constraint_Flat : VM.Enters Tryz.prog 22 := VM.Enters.mk Tryz.func22 rfl
theorem constraint_Flat_cs (c : Cn) (h : wtC c ≤ 900000000) : CS Tryz.prog G 22 [.agg (cnD c)] (.d (.sl ((flatC c [] []).map clC))) (some 61) := by
  refine CS.of_VK Tryz.func22 rfl Tryz.ntmps22 rfl ?_
  simp
  refine callK.own ent_constraint_flat (constraint_flat_nil c h) (by simp) (by simp) (by simp) (by simp; rfl) (by simp) ?_
  simp
end Go.Proofs.YthikbenglkfioaaGreatDoor
