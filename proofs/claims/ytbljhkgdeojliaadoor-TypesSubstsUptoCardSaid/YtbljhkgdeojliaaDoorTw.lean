/- The walks of Subst, and the statement TypesSubsts. No condition. -/
import Derived.Test.YtbljhkgdeojliaaDoorTz
set_option linter.unusedVariables false
set_option linter.unusedSimpArgs false
set_option linter.unusedSectionVars false
namespace Go.Proofs.YtbljhkgdeojliaaDoor
open Go Go.VM
set_option maxRecDepth 100000
set_option maxHeartbeats 8000000
variable {G : GT}
theorem pick_none {ns : List Nm} {bys : List Ty} {op : Int} {nm : Nm} (h : ¬ (op = 5 ∧ 0 ≤ findI nm ns 0 ∧ findI nm ns 0 < bys.length)) : pickT ns bys op nm = none := by
  unfold pickT
  split
  · rename_i h2
    rw [List.getElem?_eq_none_iff]
    have : ¬ findI nm ns 0 < bys.length := fun e => h ⟨h2.1, h2.2, e⟩
    omega
  · rfl
theorem pick_some {ns : List Nm} {bys : List Ty} {nm : Nm} {k : Nat} (hk : findI nm ns 0 = (k : Int)) (h : k < bys.length) : pickT ns bys 5 nm = some bys[k] := by
  unfold pickT
  rw [if_pos ⟨rfl, by omega⟩, hk]
  simp [h]
theorem types_Subst_cs (names : List Nm) (bys : List Ty) (hn1 : names.length ≤ 900000000) (hb1 : bys.length ≤ 900000000) (hb : ∀ u ∈ bys, allT u ≤ 900000000) : ∀ t : Ty, allT t ≤ 900000000 → CS Tryd.prog G 50 [.agg (tyD t), .sl (strs names), .sl (bys.map tyC)] (.d (.agg (tyD (subT names bys t)))) none := by
  refine Ty.ind fun t ih => ?_
  obtain ⟨op, nm, l, ns, p, ps⟩ := t
  intro hN
  simp only at ih
  have hn := allT_eq ⟨op, nm, l, ns, p, ps⟩
  have hq := subT_eq names bys ⟨op, nm, l, ns, p, ps⟩
  simp only at hn hq
  have hl := len_le_allTs l
  have hlp := len_le_nodPs ps
  refine CS.of_VK Tryd.func50 rfl Tryd.ntmps50 rfl ?_
  by_cases h5 : op = 5
  · subst h5
    simp
    refine callK.mk ent_n_Find (n_Find_cs names nm hn1) ?_
    by_cases hf : 0 ≤ findI nm names 0
    · obtain ⟨k, hk⟩ : ∃ k : Nat, findI nm names 0 = (k : Int) := ⟨(findI nm names 0).toNat, by omega⟩
      by_cases hlt : k < bys.length
      · rw [pick_some hk hlt] at hq
        simp only at hq
        have hg := tys_get hlt
        have hu := hb bys[k] (List.getElem_mem hlt)
        have hsub := types_Subst_nil (G := G) bys[k] hu
        rw [subT_nil] at hsub
        simp [hk, hlt, hg]
        refine callK.mk ent_types_Subst hsub ?_
        simp
        refine callK.mk ent_types_zero (types_zero_cs p) ?_
        cases hz : zpB p
        · by_cases h6 : bys[k].op = 6
          · simp [h6, hq, joinT_plain]
          · simp [h6]
            refine callK.mk ent_types_zero (types_zero_cs bys[k].pred) ?_
            cases hy : zpB bys[k].pred
            · simp
              refine ⟨lexOk.mk (by kernel_rfl), ?_⟩
              refine callK.mk ent_types_pred (types_pred_cs p (by omega)) ?_
              simp [hq, joinT, hz, hy, h6]
            · simp
              refine callK.mk ent_types_pred (types_pred_cs p (by omega)) ?_
              simp [hq, joinT, hz, hy, h6]
        · simp [hq, joinT, hz]
      · rw [pick_none (by omega)] at hq
        simp only at hq
        simp [hk, hlt]
        refine ⟨lexOk.mk (by kernel_rfl), ?_⟩
        repeat (refine stepK_len (by first | omega | (simp; omega)) ?_; simp)
        refine callK.mk ent_types_pred (types_pred_cs p (by omega)) ?_
        simp
        refine SW.loopF (ι := { i : Nat // i ≤ l.length }) (fun i => [(74, .d (.int .i64 i.1))]) (fun i => [(3, tyO 5 nm (.sl (l.map tyC)) (.sl (strs ns)) p (.sl (ps.map prC))), (6, tyZ), (9, tyO 5 nm (.sl ((l.take i.1).map (tyC ∘ subT names bys))) (.sl (strs ns)) p .nils)]) (fun _ => [(43, [.c 9 2])]) (fun i => l.length - i.1) ⟨0, by simp⟩ (by simp) ?_
        rintro ⟨i, hi⟩
        by_cases hlt : i < l.length
        · have hg := tys_get hlt
          have hw := wrap64s (show i < 9223372036854775807 by omega)
          have hb2 := allTs_mem hlt
          have h9 : ∀ (x : List D), x ∈ List.take i (List.map (tyC ∘ subT names bys) l) → x.length = 9 := len_mem (by simp)
          have hs2 := map_stepC (tyC ∘ subT names bys) hlt
          simp at hs2
          simp [hlt, hg]
          refine ⟨lexOk.mk (by kernel_rfl), ?_⟩
          refine callK.mk ent_types_Subst (ih l[i] (List.getElem_mem hlt) (by omega)) ?_
          simp
          refine stepK_len ⟨h9, by omega⟩ ?_
          simp
          exact Again.mk ⟨i + 1, hlt⟩ (by simp [hw, hs2]) (by simp; omega)
        · have : i = l.length := by omega
          subst this
          simp
          refine SW.loopF (ι := { i : Nat // i ≤ ps.length }) (fun i => [(91, .d (.int .i64 i.1))]) (fun i => [(3, tyO 5 nm (.sl (l.map tyC)) (.sl (strs ns)) p (.sl (ps.map prC))), (6, tyZ), (9, tyO 5 nm (.sl (l.map (tyC ∘ subT names bys))) (.sl (strs ns)) p (.sl ((ps.take i.1).map prC)))]) (fun _ => [(41, [.c 9 8])]) (fun i => ps.length - i.1) ⟨0, by simp⟩ (by simp) ?_
          rintro ⟨j, hj⟩
          by_cases hlt : j < ps.length
          · have hg := prs_get hlt
            have hw := wrap64s (show j < 9223372036854775807 by omega)
            have hb2 := nodPs_step hlt
            have hb3 := nodPs_take_le ps (j + 1)
            have h4 : ∀ (x : List D), x ∈ List.take j (List.map prC ps) → x.length = 4 := len_mem (by simp)
            have hs2 := map_stepC prC hlt
            rw [prC_eq] at hs2
            simp [hlt, hg]
            refine ⟨lexOk.mk (by kernel_rfl), ?_⟩
            refine callK.mk ent_types_pred (types_pred_cs ps[j] (by omega)) ?_
            simp
            refine stepK_len ⟨h4, by omega⟩ ?_
            simp
            exact Again.mk ⟨j + 1, hlt⟩ (by simp [hw, hs2]) (by simp; omega)
          · have : j = ps.length := by omega
            subst this
            simp [hq]
    · rw [pick_none (by omega)] at hq
      simp only at hq
      simp [hf]
      refine ⟨lexOk.mk (by kernel_rfl), ?_⟩
      repeat (refine stepK_len (by first | omega | (simp; omega)) ?_; simp)
      refine callK.mk ent_types_pred (types_pred_cs p (by omega)) ?_
      simp
      refine SW.loopF (ι := { i : Nat // i ≤ l.length }) (fun i => [(74, .d (.int .i64 i.1))]) (fun i => [(3, tyO 5 nm (.sl (l.map tyC)) (.sl (strs ns)) p (.sl (ps.map prC))), (6, tyZ), (9, tyO 5 nm (.sl ((l.take i.1).map (tyC ∘ subT names bys))) (.sl (strs ns)) p .nils)]) (fun _ => [(43, [.c 9 2])]) (fun i => l.length - i.1) ⟨0, by simp⟩ (by simp) ?_
      rintro ⟨i, hi⟩
      by_cases hlt : i < l.length
      · have hg := tys_get hlt
        have hw := wrap64s (show i < 9223372036854775807 by omega)
        have hb2 := allTs_mem hlt
        have h9 : ∀ (x : List D), x ∈ List.take i (List.map (tyC ∘ subT names bys) l) → x.length = 9 := len_mem (by simp)
        have hs2 := map_stepC (tyC ∘ subT names bys) hlt
        simp at hs2
        simp [hlt, hg]
        refine ⟨lexOk.mk (by kernel_rfl), ?_⟩
        refine callK.mk ent_types_Subst (ih l[i] (List.getElem_mem hlt) (by omega)) ?_
        simp
        refine stepK_len ⟨h9, by omega⟩ ?_
        simp
        exact Again.mk ⟨i + 1, hlt⟩ (by simp [hw, hs2]) (by simp; omega)
      · have : i = l.length := by omega
        subst this
        simp
        refine SW.loopF (ι := { i : Nat // i ≤ ps.length }) (fun i => [(91, .d (.int .i64 i.1))]) (fun i => [(3, tyO 5 nm (.sl (l.map tyC)) (.sl (strs ns)) p (.sl (ps.map prC))), (6, tyZ), (9, tyO 5 nm (.sl (l.map (tyC ∘ subT names bys))) (.sl (strs ns)) p (.sl ((ps.take i.1).map prC)))]) (fun _ => [(41, [.c 9 8])]) (fun i => ps.length - i.1) ⟨0, by simp⟩ (by simp) ?_
        rintro ⟨j, hj⟩
        by_cases hlt : j < ps.length
        · have hg := prs_get hlt
          have hw := wrap64s (show j < 9223372036854775807 by omega)
          have hb2 := nodPs_step hlt
          have hb3 := nodPs_take_le ps (j + 1)
          have h4 : ∀ (x : List D), x ∈ List.take j (List.map prC ps) → x.length = 4 := len_mem (by simp)
          have hs2 := map_stepC prC hlt
          rw [prC_eq] at hs2
          simp [hlt, hg]
          refine ⟨lexOk.mk (by kernel_rfl), ?_⟩
          refine callK.mk ent_types_pred (types_pred_cs ps[j] (by omega)) ?_
          simp
          refine stepK_len ⟨h4, by omega⟩ ?_
          simp
          exact Again.mk ⟨j + 1, hlt⟩ (by simp [hw, hs2]) (by simp; omega)
        · have : j = ps.length := by omega
          subst this
          simp [hq]
  · rw [pick_none (by omega)] at hq
    simp only at hq
    simp [h5]
    refine ⟨lexOk.mk (by kernel_rfl), ?_⟩
    repeat (refine stepK_len (by first | omega | (simp; omega)) ?_; simp)
    refine callK.mk ent_types_pred (types_pred_cs p (by omega)) ?_
    simp
    refine SW.loopF (ι := { i : Nat // i ≤ l.length }) (fun i => [(74, .d (.int .i64 i.1))]) (fun i => [(3, tyO op nm (.sl (l.map tyC)) (.sl (strs ns)) p (.sl (ps.map prC))), (6, tyZ), (9, tyO op nm (.sl ((l.take i.1).map (tyC ∘ subT names bys))) (.sl (strs ns)) p .nils)]) (fun _ => [(43, [.c 9 2])]) (fun i => l.length - i.1) ⟨0, by simp⟩ (by simp) ?_
    rintro ⟨i, hi⟩
    by_cases hlt : i < l.length
    · have hg := tys_get hlt
      have hw := wrap64s (show i < 9223372036854775807 by omega)
      have hb2 := allTs_mem hlt
      have h9 : ∀ (x : List D), x ∈ List.take i (List.map (tyC ∘ subT names bys) l) → x.length = 9 := len_mem (by simp)
      have hs2 := map_stepC (tyC ∘ subT names bys) hlt
      simp at hs2
      simp [hlt, hg]
      refine ⟨lexOk.mk (by kernel_rfl), ?_⟩
      refine callK.mk ent_types_Subst (ih l[i] (List.getElem_mem hlt) (by omega)) ?_
      simp
      refine stepK_len ⟨h9, by omega⟩ ?_
      simp
      exact Again.mk ⟨i + 1, hlt⟩ (by simp [hw, hs2]) (by simp; omega)
    · have : i = l.length := by omega
      subst this
      simp
      refine SW.loopF (ι := { i : Nat // i ≤ ps.length }) (fun i => [(91, .d (.int .i64 i.1))]) (fun i => [(3, tyO op nm (.sl (l.map tyC)) (.sl (strs ns)) p (.sl (ps.map prC))), (6, tyZ), (9, tyO op nm (.sl (l.map (tyC ∘ subT names bys))) (.sl (strs ns)) p (.sl ((ps.take i.1).map prC)))]) (fun _ => [(41, [.c 9 8])]) (fun i => ps.length - i.1) ⟨0, by simp⟩ (by simp) ?_
      rintro ⟨j, hj⟩
      by_cases hlt : j < ps.length
      · have hg := prs_get hlt
        have hw := wrap64s (show j < 9223372036854775807 by omega)
        have hb2 := nodPs_step hlt
        have hb3 := nodPs_take_le ps (j + 1)
        have h4 : ∀ (x : List D), x ∈ List.take j (List.map prC ps) → x.length = 4 := len_mem (by simp)
        have hs2 := map_stepC prC hlt
        rw [prC_eq] at hs2
        simp [hlt, hg]
        refine ⟨lexOk.mk (by kernel_rfl), ?_⟩
        refine callK.mk ent_types_pred (types_pred_cs ps[j] (by omega)) ?_
        simp
        refine stepK_len ⟨h4, by omega⟩ ?_
        simp
        exact Again.mk ⟨j + 1, hlt⟩ (by simp [hw, hs2]) (by simp; omega)
      · have : j = ps.length := by omega
        subst this
        simp [hq]
theorem ent_r19_Subst : VM.Enters Tryd.prog 51 := VM.Enters.mk Tryd.func51 rfl
theorem r19_Subst_cs (names : List Nm) (bys : List Ty) (hn1 : names.length ≤ 1000000) (hb1 : bys.length ≤ 900000000) (hb : ∀ u ∈ bys, allT u ≤ 900000000) : ∀ t : Ty, allT t ≤ 900000000 → CS Tryd.prog G 51 [.agg (tyD t), .sl (strs names), .sl (bys.map tyC)] (.d (.agg (tyD (subT names bys t)))) none := by
  refine Ty.ind fun t ih => ?_
  obtain ⟨op, nm, l, ns, p, ps⟩ := t
  intro hN
  simp only at ih
  have hn := allT_eq ⟨op, nm, l, ns, p, ps⟩
  have hq := subT_eq names bys ⟨op, nm, l, ns, p, ps⟩
  simp only at hn hq
  have hl := len_le_allTs l
  refine CS.of_VK Tryd.func51 rfl Tryd.ntmps51 rfl ?_
  by_cases h5 : op = 5
  · subst h5
    simp
    refine callK.mk ent_r4_Find (r4_Find_cs names nm hn1) ?_
    by_cases hf : 0 ≤ findI nm names 0
    · obtain ⟨k, hk⟩ : ∃ k : Nat, findI nm names 0 = (k : Int) := ⟨(findI nm names 0).toNat, by omega⟩
      by_cases hlt : k < bys.length
      · rw [pick_some hk hlt] at hq
        simp only at hq
        have hg := tys_get hlt
        have hu := hb bys[k] (List.getElem_mem hlt)
        have hu2 := nodP_all bys[k]
        simp [hk, hlt, hg]
        refine ⟨lexOk.mk (by kernel_rfl), ?_⟩
        refine callK.mk ent_r19_joined (r19_joined_cs bys[k] p (by omega) (by omega)) ?_
        simp [hq]
      · rw [pick_none (by omega)] at hq
        simp only at hq
        simp [hk, hlt]
        refine SW.loopF (ι := { i : Nat // i ≤ l.length }) (fun i => [(8, .d (.sl ((l.take i.1).map (tyC ∘ subT names bys)))), (36, .d (.int .i64 i.1))]) (fun i => [(3, tyO 5 nm (.sl (l.map tyC)) (.sl (strs ns)) p (.sl (ps.map prC))), (6, tyZ)]) (fun _ => [(43, [.t 8])]) (fun i => l.length - i.1) ⟨0, by simp⟩ (by simp) ?_
        rintro ⟨i, hi⟩
        by_cases hlt : i < l.length
        · have hg := tys_get hlt
          have hw := wrap64s (show i < 9223372036854775807 by omega)
          have hb2 := allTs_mem hlt
          have h9 : ∀ (x : List D), x ∈ List.take i (List.map (tyC ∘ subT names bys) l) → x.length = 9 := len_mem (by simp)
          have hs2 := map_stepC (tyC ∘ subT names bys) hlt
          simp at hs2
          simp [hlt, hg]
          refine callK.mk ent_r19_Subst (ih l[i] (List.getElem_mem hlt) (by omega)) ?_
          simp
          refine stepK_len ⟨h9, by omega⟩ ?_
          simp
          exact Again.mk ⟨i + 1, hlt⟩ (by simp [hw, hs2]) (by simp; omega)
        · have : i = l.length := by omega
          subst this
          simp [hq]
    · rw [pick_none (by omega)] at hq
      simp only at hq
      simp [hf]
      refine SW.loopF (ι := { i : Nat // i ≤ l.length }) (fun i => [(8, .d (.sl ((l.take i.1).map (tyC ∘ subT names bys)))), (36, .d (.int .i64 i.1))]) (fun i => [(3, tyO 5 nm (.sl (l.map tyC)) (.sl (strs ns)) p (.sl (ps.map prC))), (6, tyZ)]) (fun _ => [(43, [.t 8])]) (fun i => l.length - i.1) ⟨0, by simp⟩ (by simp) ?_
      rintro ⟨i, hi⟩
      by_cases hlt : i < l.length
      · have hg := tys_get hlt
        have hw := wrap64s (show i < 9223372036854775807 by omega)
        have hb2 := allTs_mem hlt
        have h9 : ∀ (x : List D), x ∈ List.take i (List.map (tyC ∘ subT names bys) l) → x.length = 9 := len_mem (by simp)
        have hs2 := map_stepC (tyC ∘ subT names bys) hlt
        simp at hs2
        simp [hlt, hg]
        refine callK.mk ent_r19_Subst (ih l[i] (List.getElem_mem hlt) (by omega)) ?_
        simp
        refine stepK_len ⟨h9, by omega⟩ ?_
        simp
        exact Again.mk ⟨i + 1, hlt⟩ (by simp [hw, hs2]) (by simp; omega)
      · have : i = l.length := by omega
        subst this
        simp [hq]
  · rw [pick_none (by omega)] at hq
    simp only at hq
    simp [h5]
    refine SW.loopF (ι := { i : Nat // i ≤ l.length }) (fun i => [(8, .d (.sl ((l.take i.1).map (tyC ∘ subT names bys)))), (36, .d (.int .i64 i.1))]) (fun i => [(3, tyO op nm (.sl (l.map tyC)) (.sl (strs ns)) p (.sl (ps.map prC))), (6, tyZ)]) (fun _ => [(43, [.t 8])]) (fun i => l.length - i.1) ⟨0, by simp⟩ (by simp) ?_
    rintro ⟨i, hi⟩
    by_cases hlt : i < l.length
    · have hg := tys_get hlt
      have hw := wrap64s (show i < 9223372036854775807 by omega)
      have hb2 := allTs_mem hlt
      have h9 : ∀ (x : List D), x ∈ List.take i (List.map (tyC ∘ subT names bys) l) → x.length = 9 := len_mem (by simp)
      have hs2 := map_stepC (tyC ∘ subT names bys) hlt
      simp at hs2
      simp [hlt, hg]
      refine callK.mk ent_r19_Subst (ih l[i] (List.getElem_mem hlt) (by omega)) ?_
      simp
      refine stepK_len ⟨h9, by omega⟩ ?_
      simp
      exact Again.mk ⟨i + 1, hlt⟩ (by simp [hw, hs2]) (by simp; omega)
    · have : i = l.length := by omega
      subst this
      simp [hq]
/-! ### Sizes -/
theorem joinT_all (t : Ty) (p : Pr) : allT (joinT t p) ≤ allT t + nodP p + 1 := by
  have h := allT_eq t
  unfold joinT
  split
  · omega
  · split
    · simp only [allT]
      omega
    · simp only [allT, nodP, nodPs]
      omega
mutual
theorem subT_all (ns : List Nm) (bys : List Ty) (m : Nat) (hb : ∀ u ∈ bys, allT u ≤ m) : ∀ t : Ty, allT (subT ns bys t) ≤ allT t + nodT t * (m + 1)
  | ⟨op, nm, l, ms, p, ps⟩ => by
    have h := subTs_all ns bys m hb l
    rw [subT]
    split
    · rename_i u hu
      have hm : u ∈ bys := by
        unfold pickT at hu
        split at hu
        · exact List.mem_of_getElem? hu
        · cases hu
      have h1 := hb u hm
      have h2 := joinT_all u p
      have h3 : 1 ≤ nodT ⟨op, nm, l, ms, p, ps⟩ := nodT_pos _
      have h4 : nodP p + 1 ≤ allT ⟨op, nm, l, ms, p, ps⟩ := by simp only [allT]; omega
      have h6 : m + 1 ≤ nodT ⟨op, nm, l, ms, p, ps⟩ * (m + 1) := Nat.le_mul_of_pos_left _ h3
      omega
    · simp only [allT, nodT, Nat.add_mul, Nat.one_mul]
      omega
theorem subTs_all (ns : List Nm) (bys : List Ty) (m : Nat) (hb : ∀ u ∈ bys, allT u ≤ m) : ∀ l : List Ty, allTs (subTs ns bys l) ≤ allTs l + nodTs l * (m + 1)
  | [] => by simp [subTs, allTs]
  | t :: r => by
    have h1 := subT_all ns bys m hb t
    have h2 := subTs_all ns bys m hb r
    simp only [subTs, allTs, nodTs, Nat.add_mul] at h1 h2 ⊢
    omega
end
theorem allTs_in {u : Ty} : ∀ {l : List Ty}, u ∈ l → allT u ≤ allTs l
  | t :: r, h => by
    simp only [allTs]
    rcases List.mem_cons.1 h with rfl | h
    · omega
    · have := allTs_in h
      omega
theorem l19_TypesSubsts_cs (t : Ty) (names : List Nm) (bys : List Ty) (hs : szL (tyC t) + (szLL (strs names) + szLL (bys.map tyC)) ≤ 1048576) : CS Tryd.prog G0 10 [.agg (tyD t), .sl (strs names), .sl (bys.map tyC)] (.d (.bool true)) none := by
  have h1 := allT_sz t
  have h2 := allTs_sz bys
  have h3 := nodT_all t
  have h4 := strs_sz names
  have h5 := len_le_allTs bys
  have hf := l19_few_cs (G := G0) (allTs [t]) [t] (Nat.le_refl _) (by simp only [allTs]; omega)
  simp at hf
  refine CS.of_VK Tryd.func10 rfl Tryd.ntmps10 rfl ?_
  simp
  refine callK.mk ent_l19_few hf ?_
  cases hfw : fewTs [t]
  · simp
    refine callK.mk ent_l19_alive (l19_alive_cs ) ?_
    simp
  simp [fewTs] at hfw
  have n1 := few_nod hfw
  simp
  refine callK.mk ent_l19_few (l19_few_cs (allTs bys) bys (Nat.le_refl _) (by omega)) ?_
  cases hfb : fewTs bys
  · simp
    refine callK.mk ent_l19_alive (l19_alive_cs ) ?_
    simp
  by_cases hb20 : 20 < bys.length
  · simp [hb20]
    refine callK.mk ent_l19_alive (l19_alive_cs ) ?_
    simp
  by_cases hn20 : 20 < names.length
  · simp [hb20, hn20]
    refine callK.mk ent_l19_alive (l19_alive_cs ) ?_
    simp
  have hin : ∀ u ∈ bys, allT u ≤ 1048576 := fun u hu => by have := allTs_in hu; omega
  have hsub := subT_all names bys 1048576 hin t
  have hmul : nodT t * (1048576 + 1) ≤ 60 * 1048577 := Nat.mul_le_mul_right _ n1
  simp [hb20, hn20]
  refine ⟨lexOk.mk (by kernel_rfl), ?_⟩
  refine callK.mk ent_types_Subst (types_Subst_cs names bys (by omega) (by omega) (fun u hu => by have := hin u hu; omega) t (by omega)) ?_
  simp
  refine callK.mk ent_r19_Subst (r19_Subst_cs names bys (by omega) (by omega) (fun u hu => by have := hin u hu; omega) t (by omega)) ?_
  simp
  refine callK.mk ent_l19_Equal (l19_Equal_cs (subT names bys t) (subT names bys t) (by omega)) ?_
  simp [eqT_self]
  refine callK.mk ent_l19_alive (l19_alive_cs ) ?_
  simp
theorem typesSubsts_all (xs : List D) (h : FitsAll Tryd.prog [43, 37, 36] xs) (hsz : szL xs ≤ 1048576) : CS Tryd.prog G0 10 xs (.d (.bool true)) none := by
  match xs, h with
  | [a, b, c], ⟨h1, h2, h3, _⟩ =>
    obtain ⟨t, rfl⟩ := fitV_ty h1
    obtain ⟨es, rfl, _, hes⟩ := fitsV_sl ty_elem37 h2
    obtain ⟨fs, rfl, _, hfs⟩ := fitsV_sl ty_elem36 h3
    obtain ⟨names, rfl⟩ := fits_strs hes
    obtain ⟨bys, rfl⟩ := fits_tys hfs
    simp only [szL, szD] at hsz
    have := l19_TypesSubsts_cs t names bys (by omega)
    rw [tyC_eq]
    exact this
end Go.Proofs.YtbljhkgdeojliaaDoor
