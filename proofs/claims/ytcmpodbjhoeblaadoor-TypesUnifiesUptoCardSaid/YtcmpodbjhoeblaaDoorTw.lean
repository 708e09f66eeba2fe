/- The walks of Subst, and the statement TypesSubsts. No condition. -/
import Derived.Test.YtcmpodbjhoeblaaDoorTz
set_option linter.unusedVariables false
set_option linter.unusedSimpArgs false
set_option linter.unusedSectionVars false
namespace Go.Proofs.YtcmpodbjhoeblaaDoor
open Go Go.VM
set_option maxRecDepth 100000
set_option maxHeartbeats 8000000
variable {G : GT}
theorem pick_none {ns : List Nm} {bys : List Ty} {op : Int} {nm : Nm} (h : ¬ (op = 5 ∧ 0 ≤ findI nm ns 0 ∧ findI nm ns 0 < bys.length)) : pickT ns bys op nm = none := by
  unfold pickT
  split
  · rename_i h2
    rw [List.getElem?_eq_none_iff]
    have : ¬ findI nm ns 0 < bys.length := fun e => h ⟨h2.1, h2.2, e⟩
    omega
  · rfl
theorem pick_some {ns : List Nm} {bys : List Ty} {nm : Nm} {k : Nat} (hk : findI nm ns 0 = (k : Int)) (h : k < bys.length) : pickT ns bys 5 nm = some bys[k] := by
  unfold pickT
  rw [if_pos ⟨rfl, by omega⟩, hk]
  simp [h]
theorem ent_r19_Subst : VM.Enters Tryd.prog 45 := VM.Enters.mk Tryd.func45 rfl
theorem r19_Subst_ln (names : List Nm) (bys : List Ty) (hn1 : names.length ≤ 1000000) (hb1 : bys.length ≤ 900000000) (hb : ∀ u ∈ bys, LnT 900000000 u) : ∀ t : Ty, LnT 900000000 t → CS Tryd.prog G 45 [.agg (tyD t), .sl (strs names), .sl (bys.map tyC)] (.d (.agg (tyD (subT names bys t)))) none := by
  refine Ty.ind fun t ih => ?_
  obtain ⟨op, nm, l, ns, p, ps⟩ := t
  rintro ⟨hl, hns, hp, hps, hL⟩
  simp only at ih
  have hq := subT_eq names bys ⟨op, nm, l, ns, p, ps⟩
  simp only at hq
  refine CS.of_VK Tryd.func45 rfl Tryd.ntmps45 rfl ?_
  by_cases h5 : op = 5
  · subst h5
    simp
    refine callK.mk ent_r4_Find (r4_Find_cs names nm hn1) ?_
    by_cases hf : 0 ≤ findI nm names 0
    · obtain ⟨k, hk⟩ : ∃ k : Nat, findI nm names 0 = (k : Int) := ⟨(findI nm names 0).toNat, by omega⟩
      by_cases hlt : k < bys.length
      · rw [pick_some hk hlt] at hq
        simp only at hq
        have hg := tys_get hlt
        have hu := hb bys[k] (List.getElem_mem hlt)
        have hu2 := LnT_pred hu
        simp [hk, hlt, hg]
        refine ⟨.mk, ?_⟩
        refine callK.mk ent_r19_joined (r19_joined_cs bys[k] p (by omega) (by omega)) ?_
        simp [hq]
      · rw [pick_none (by omega)] at hq
        simp only at hq
        simp [hk, hlt]
        refine SW.loopF (ι := { i : Nat // i ≤ l.length }) (fun i => [(8, .d (.sl ((l.take i.1).map (tyC ∘ subT names bys)))), (36, .d (.int .i64 i.1))]) (fun i => [(3, tyO 5 nm (.sl (l.map tyC)) (.sl (strs ns)) p (.sl (ps.map prC))), (6, tyZ)]) (fun _ => [(30, [.t 8])]) (fun i => l.length - i.1) ⟨0, by simp⟩ (by simp) ?_
        rintro ⟨i, hi⟩
        by_cases hlt : i < l.length
        · have hg := tys_get hlt
          have hw := wrap64s (show i < 9223372036854775807 by omega)
          have hb2 := LnTs_get hL hlt
          have h9 : ∀ (x : List D), x ∈ List.take i (List.map (tyC ∘ subT names bys) l) → x.length = 9 := len_mem (by simp)
          have hs2 := map_stepC (tyC ∘ subT names bys) hlt
          simp at hs2
          simp [hlt, hg]
          refine callK.mk ent_r19_Subst (ih l[i] (List.getElem_mem hlt) hb2) ?_
          simp
          refine stepK_len ⟨h9, by omega⟩ ?_
          simp
          exact Again.mk ⟨i + 1, hlt⟩ (by simp [hw, hs2]) (by simp; omega)
        · have : i = l.length := by omega
          subst this
          simp [hq]
    · rw [pick_none (by omega)] at hq
      simp only at hq
      simp [hf]
      refine SW.loopF (ι := { i : Nat // i ≤ l.length }) (fun i => [(8, .d (.sl ((l.take i.1).map (tyC ∘ subT names bys)))), (36, .d (.int .i64 i.1))]) (fun i => [(3, tyO 5 nm (.sl (l.map tyC)) (.sl (strs ns)) p (.sl (ps.map prC))), (6, tyZ)]) (fun _ => [(30, [.t 8])]) (fun i => l.length - i.1) ⟨0, by simp⟩ (by simp) ?_
      rintro ⟨i, hi⟩
      by_cases hlt : i < l.length
      · have hg := tys_get hlt
        have hw := wrap64s (show i < 9223372036854775807 by omega)
        have hb2 := LnTs_get hL hlt
        have h9 : ∀ (x : List D), x ∈ List.take i (List.map (tyC ∘ subT names bys) l) → x.length = 9 := len_mem (by simp)
        have hs2 := map_stepC (tyC ∘ subT names bys) hlt
        simp at hs2
        simp [hlt, hg]
        refine callK.mk ent_r19_Subst (ih l[i] (List.getElem_mem hlt) hb2) ?_
        simp
        refine stepK_len ⟨h9, by omega⟩ ?_
        simp
        exact Again.mk ⟨i + 1, hlt⟩ (by simp [hw, hs2]) (by simp; omega)
      · have : i = l.length := by omega
        subst this
        simp [hq]
  · rw [pick_none (by omega)] at hq
    simp only at hq
    simp [h5]
    refine SW.loopF (ι := { i : Nat // i ≤ l.length }) (fun i => [(8, .d (.sl ((l.take i.1).map (tyC ∘ subT names bys)))), (36, .d (.int .i64 i.1))]) (fun i => [(3, tyO op nm (.sl (l.map tyC)) (.sl (strs ns)) p (.sl (ps.map prC))), (6, tyZ)]) (fun _ => [(30, [.t 8])]) (fun i => l.length - i.1) ⟨0, by simp⟩ (by simp) ?_
    rintro ⟨i, hi⟩
    by_cases hlt : i < l.length
    · have hg := tys_get hlt
      have hw := wrap64s (show i < 9223372036854775807 by omega)
      have hb2 := LnTs_get hL hlt
      have h9 : ∀ (x : List D), x ∈ List.take i (List.map (tyC ∘ subT names bys) l) → x.length = 9 := len_mem (by simp)
      have hs2 := map_stepC (tyC ∘ subT names bys) hlt
      simp at hs2
      simp [hlt, hg]
      refine callK.mk ent_r19_Subst (ih l[i] (List.getElem_mem hlt) hb2) ?_
      simp
      refine stepK_len ⟨h9, by omega⟩ ?_
      simp
      exact Again.mk ⟨i + 1, hlt⟩ (by simp [hw, hs2]) (by simp; omega)
    · have : i = l.length := by omega
      subst this
      simp [hq]
theorem r19_Subst_cs (names : List Nm) (bys : List Ty) (hn1 : names.length ≤ 1000000) (hb1 : bys.length ≤ 900000000) (hb : ∀ u ∈ bys, allT u ≤ 900000000) (t : Ty) (h : allT t ≤ 900000000) : CS Tryd.prog G 45 [.agg (tyD t), .sl (strs names), .sl (bys.map tyC)] (.d (.agg (tyD (subT names bys t)))) none := r19_Subst_ln names bys hn1 hb1 (fun u hu => LnT_all u (hb u hu)) t (LnT_all t h)
/-! ### Sizes -/
theorem joinT_all (t : Ty) (p : Pr) : allT (joinT t p) ≤ allT t + nodP p + 1 := by
  have h := allT_eq t
  unfold joinT
  split
  · omega
  · split
    · simp only [allT]
      omega
    · simp only [allT, nodP, nodPs]
      omega
mutual
theorem subT_all (ns : List Nm) (bys : List Ty) (m : Nat) (hb : ∀ u ∈ bys, allT u ≤ m) : ∀ t : Ty, allT (subT ns bys t) ≤ allT t + nodT t * (m + 1)
  | ⟨op, nm, l, ms, p, ps⟩ => by
    have h := subTs_all ns bys m hb l
    rw [subT]
    split
    · rename_i u hu
      have hm : u ∈ bys := by
        unfold pickT at hu
        split at hu
        · exact List.mem_of_getElem? hu
        · cases hu
      have h1 := hb u hm
      have h2 := joinT_all u p
      have h3 : 1 ≤ nodT ⟨op, nm, l, ms, p, ps⟩ := nodT_pos _
      have h4 : nodP p + 1 ≤ allT ⟨op, nm, l, ms, p, ps⟩ := by simp only [allT]; omega
      have h6 : m + 1 ≤ nodT ⟨op, nm, l, ms, p, ps⟩ * (m + 1) := Nat.le_mul_of_pos_left _ h3
      omega
    · simp only [allT, nodT, Nat.add_mul, Nat.one_mul]
      omega
theorem subTs_all (ns : List Nm) (bys : List Ty) (m : Nat) (hb : ∀ u ∈ bys, allT u ≤ m) : ∀ l : List Ty, allTs (subTs ns bys l) ≤ allTs l + nodTs l * (m + 1)
  | [] => by simp [subTs, allTs]
  | t :: r => by
    have h1 := subT_all ns bys m hb t
    have h2 := subTs_all ns bys m hb r
    simp only [subTs, allTs, nodTs, Nat.add_mul] at h1 h2 ⊢
    omega
end
theorem allTs_in {u : Ty} : ∀ {l : List Ty}, u ∈ l → allT u ≤ allTs l
  | t :: r, h => by
    simp only [allTs]
    rcases List.mem_cons.1 h with rfl | h
    · omega
    · have := allTs_in h
      omega
end Go.Proofs.YtcmpodbjhoeblaaDoor
