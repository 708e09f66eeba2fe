/- The statement ClassesOrder: the walk. No condition. -/
import Derived.Test.YtbacejmdgfalpaaDoorKw
set_option linter.unusedVariables false
set_option linter.unusedSimpArgs false
set_option linter.unusedSectionVars false
namespace Go.Proofs.YtbacejmdgfalpaaDoor
open Go Go.VM
set_option maxRecDepth 100000
set_option maxHeartbeats 8000000
theorem revI_len {l : List In} {i : Nat} (h : i < l.length) : (l.reverse.take i).length = i := by simp; omega
theorem revD_len {l : List Df} {i : Nat} (h : i < l.length) : (l.reverse.take i).length = i := by simp; omega
theorem apI_size {l : List In} {i : Nat} (h : i < l.length) (hn : l.length ≤ 1048576) : (i + 1) * 1000 ≤ 140737488355328 := by omega
theorem l25_ClassesOrder_cs (m : Mo) (nm : Nm) (t : Ty) (hs : szL (moC m) ≤ 1048576) (ht : szL (tyC t) ≤ 1048576) : CS Tryd.prog G0 5 [.agg (moC m), .str nm, .agg (tyD t)] (.d (.bool true)) none := by
  obtain ⟨B, hB⟩ := few_ex m
  have htn : nodT t ≤ 900000000 := big (nodT_sz t) ht
  obtain ⟨B2, hB2⟩ : ∃ B : Bool, B = true ↔ thinM m t := by
    by_cases h : thinM m t
    · exact ⟨true, by simp [h]⟩
    · exact ⟨false, by simp [h]⟩
  have hf := l25_few_cs (G := G0) m B hB (mo_len hs)
  have hth := l25_thin_cs (G := G0) m t B2 hB2 (mo_len hs) htn
  refine CS.of_VK Tryd.func5 rfl Tryd.ntmps5 rfl ?_
  simp
  refine callK.mk ent_l25_few hf ?_
  cases B with
  | false =>
    simp
    refine callK.mk ent_l25_alive l25_alive_cs ?_
    simp
  | true =>
  have hok := few_ok hs (hB.1 rfl)
  simp
  refine callK.mk ent_l25_thin hth ?_
  cases B2 with
  | false =>
    simp
    refine callK.mk ent_l25_alive l25_alive_cs ?_
    simp
  | true =>
  simp
  refine callK.mk ent_classes_Check (classes_Check_cs m hok) ?_
  by_cases hck : checkM m = 0
  rotate_left
  · simp [hck]
    refine callK.mk ent_l25_alive l25_alive_cs ?_
    simp
  simp [hck]
  have hil : m.ins.length ≤ 10 := (hB.1 rfl).2.2.1
  have hdl : m.defs.length ≤ 10 := (hB.1 rfl).2.2.2
  refine SW.loopF (ι := { i : Nat // i ≤ m.ins.length }) (fun i => [(39, .d (.int .i64 i.1))]) (fun i => [(3, .cells ((moC m).map .d)), (5, tyB t), (7, .cells [.d m.datas, .d (.sl (m.cls.map clC)), .d (.sl ((m.ins.reverse.take i.1).map inC)), .d m.measures, .d m.quals, .d .nils])]) (fun _ => [(57, [.c 7 2])]) (fun i => m.ins.length - i.1) ⟨0, by simp⟩ (by simp) ?_
  rintro ⟨i, hi⟩
  by_cases hlt : i < m.ins.length
  · have hw := wrap64s (show i < 9223372036854775807 by omega)
    have hrv := rev_int hlt (by omega)
    have hat := rev_at hlt
    have hst := take_rev inC hlt
    obtain ⟨x, hx⟩ : ∃ x, m.ins.reverse[i]'(by simpa using hlt) = x := ⟨_, rfl⟩
    rw [hx] at hat hst
    have hmem : x ∈ m.ins := by rw [← hx]; exact List.mem_reverse.1 (List.getElem_mem _)
    obtain ⟨k, hk⟩ : ∃ k, m.ins.length - 1 - i = k := ⟨_, rfl⟩
    have hkl : k < m.ins.length := by omega
    rw [hk] at hat hrv
    have q1 := (hok.2.2.1 x hmem).2.2.1
    have hv := r19_Vars_cs (G := G0) x.ty q1
    have hd := r19_Depth_cs (G := G0) x.ty (by omega)
    have hxk : m.ins[k] = x := by rw [List.getElem?_eq_getElem hkl] at hat; exact Option.some.inj hat
    have h12 : ∀ (y : List D), y ∈ List.take i (List.map inC m.ins).reverse → y.length = 12 := fun y hy => by
      have h1 := List.mem_reverse.1 (List.mem_of_mem_take hy)
      obtain ⟨z, _, rfl⟩ := List.mem_map.1 h1
      rfl
    simp at hst
    simp [hlt, hrv, hk, hkl, hxk]
    refine ⟨lexOk.mk (by kernel_rfl), ?_⟩
    by_cases h1 : x.ty.op = 1
    · rw [h1] at hst
      simp [h1]
      refine stepK_len ⟨h12, by omega⟩ ?_
      simp
      exact Again.mk ⟨i + 1, hlt⟩ (by simp [hw, hst]) (by simp; omega)
    by_cases h2 : x.ty.op = 2
    · rw [h2] at hst
      simp [h1, h2]
      refine stepK_len ⟨h12, by omega⟩ ?_
      simp
      exact Again.mk ⟨i + 1, hlt⟩ (by simp [hw, hst]) (by simp; omega)
    by_cases h4 : x.ty.op = 4
    rotate_left
    · simp [h1, h2, h4]
      refine callK.mk ent_l25_alive l25_alive_cs ?_
      simp
    rw [h4] at hst
    simp only [tyD, h4] at hv hd
    simp [h1, h2, h4]
    refine callK.mk ent_r19_Vars hv ?_
    simp
    by_cases h5 : (varsT x.ty []).length = x.ty.args.length
    rotate_left
    · have h5' : ¬ ((varsT x.ty []).length : Int) = (x.ty.args.length : Int) := fun e => h5 (Int.ofNat_inj.1 e)
      simp [h5']
      refine callK.mk ent_l25_alive l25_alive_cs ?_
      simp
    simp [h5]
    refine callK.mk ent_r19_Depth hd ?_
    simp
    by_cases h6 : 2 < depT x.ty
    · simp [h6]
      refine callK.mk ent_l25_alive l25_alive_cs ?_
      simp
    simp [h6]
    refine stepK_len ⟨h12, by omega⟩ ?_
    simp
    exact Again.mk ⟨i + 1, hlt⟩ (by simp [hw, hst]) (by simp; omega)
  have : i = m.ins.length := by omega
  subst this
  have htI : List.take m.ins.length (List.map inC m.ins).reverse = (List.map inC m.ins).reverse := List.take_of_length_le (by simp)
  simp [htI]
  refine SW.loopF (ι := { i : Nat // i ≤ m.defs.length }) (fun i => [(96, .d (.int .i64 i.1))]) (fun i => [(3, .cells ((moC m).map .d)), (5, tyB t), (7, .cells [.d m.datas, .d (.sl (m.cls.map clC)), .d (.sl (m.ins.reverse.map inC)), .d m.measures, .d m.quals, .d (.sl ((m.defs.reverse.take i.1).map dfC))])]) (fun _ => [(68, [.c 7 5])]) (fun i => m.defs.length - i.1) ⟨0, by simp⟩ (by simp) ?_
  rintro ⟨i, hi⟩
  by_cases hlt : i < m.defs.length
  · have hw := wrap64s (show i < 9223372036854775807 by omega)
    have hrv := rev_int hlt (by omega)
    have hat := rev_at hlt
    have hst := take_rev dfC hlt
    obtain ⟨x, hx⟩ : ∃ x, m.defs.reverse[i]'(by simpa using hlt) = x := ⟨_, rfl⟩
    rw [hx] at hat hst
    obtain ⟨k, hk⟩ : ∃ k, m.defs.length - 1 - i = k := ⟨_, rfl⟩
    have hkl : k < m.defs.length := by omega
    rw [hk] at hat hrv
    have hxk : m.defs[k] = x := by rw [List.getElem?_eq_getElem hkl] at hat; exact Option.some.inj hat
    have h25 : ∀ (y : List D), y ∈ List.take i (List.map dfC m.defs).reverse → y.length = 25 := fun y hy => by
      have h1 := List.mem_reverse.1 (List.mem_of_mem_take hy)
      obtain ⟨z, _, rfl⟩ := List.mem_map.1 h1
      rfl
    simp at hst
    simp [hlt, hrv, hk, hkl, hxk]
    refine ⟨lexOk.mk (by kernel_rfl), ?_⟩
    refine stepK_len ⟨h25, by omega⟩ ?_
    simp
    exact Again.mk ⟨i + 1, hlt⟩ (by simp [hw, hst]) (by simp; omega)
  have : i = m.defs.length := by omega
  subst this
  have htD : List.take m.defs.length (List.map dfC m.defs).reverse = (List.map dfC m.defs).reverse := List.take_of_length_le (by simp)
  obtain ⟨hap, hck2⟩ := checkM_rev hck
  have hrev := findF_rev hap (nodT t) nm t
  have hmi : ∀ x ∈ m.ins, nodT x.ty ≤ 1000000 ∧ allT x.ty ≤ 900000000 ∧ x.needs.length ≤ 900000000 := fun x hx => ⟨(hok.2.2.1 x hx).2.2.1, mo_allI hs x hx, (hok.2.2.1 x hx).1⟩
  have hf1 := classes_Find_cs G0_kw m hok.1.2.1 hmi (nodT t) nm t (Nat.le_refl _) htn
  have hf2 := classes_Find_cs G0_kw { m with ins := m.ins.reverse, defs := m.defs.reverse } (by simp; omega) (fun x hx => hmi x (List.mem_reverse.1 hx)) (nodT t) nm t (Nat.le_refl _) htn
  have hc2 := classes_Check_cs (G := G0) { m with defs := m.defs.reverse } ⟨⟨hok.1.1, hok.1.2.1, by simp; omega⟩, hok.2.1, hok.2.2.1, fun d hd => hok.2.2.2 d (List.mem_reverse.1 hd)⟩
  rw [hck2] at hc2
  simp only [moC, List.map_reverse] at hf1 hf2 hc2
  simp only [] at hrev
  simp [htD]
  refine callK.mk (hkl := resF_keyless _) ent_classes_Find hf1 ?_
  have fin : ∀ (o1 o2 : Option (Nat × List Ty)), o2.map (·.2) = o1.map (·.2) → (∀ p, o1 = some p → p.2.length ≤ 900000000 ∧ ∀ u ∈ p.2, nodT u ≤ 900000000) → True := fun _ _ _ _ => trivial
  have hmem : ∀ p, findF m.ins (nodT t) nm t = some p → p.2.length ≤ 900000000 ∧ ∀ u ∈ p.2, nodT u ≤ 900000000 := fun p hp => by
    obtain ⟨x, hx, h5, hm⟩ := findF_mem hp
    obtain ⟨l1, _, _, l4⟩ := matT_some hm h5
    refine ⟨?_, fun u hu => Nat.le_trans (Nat.le_of_succ_le (l4 u hu)) htn⟩
    have v1 := varsT_len (bareT x.ty) []
    have v2 := nod_bare x.ty
    have v3 := (hmi x hx).1
    simp only [List.length_nil, Nat.zero_add] at v1
    rw [l1]
    omega
  clear fin
  by_cases hg : varsT t [] = []
  · rw [if_pos hg] at hf1 hf2 ⊢
    cases ho : findF m.ins (nodT t) nm t with
    | none =>
      rw [ho] at hrev
      have ho2 : findF m.ins.reverse (nodT t) nm t = none := by simpa using hrev
      have hsa := r19_SameAll_cs [] (by simp) (by simp)
      rw [ho2] at hf2
      simp only [resF, List.map_nil] at hf2 hsa ⊢
      simp
      refine callK.mk ent_classes_Find hf2 ?_
      simp
      refine callK.mk ent_r19_SameAll hsa ?_
      simp
      refine callK.mk ent_classes_Check hc2 ?_
      simp
      refine callK.mk ent_l25_alive l25_alive_cs ?_
      simp
    | some p =>
      obtain ⟨a, L⟩ := p
      rw [ho] at hrev
      obtain ⟨⟨b, L2⟩, ho2, hL⟩ : ∃ q, findF m.ins.reverse (nodT t) nm t = some q ∧ q.2 = L := by simpa using hrev
      simp only at hL
      subst hL
      obtain ⟨n1, n2⟩ := hmem _ ho
      have hsa := r19_SameAll_cs L2 n1 n2
      rw [ho2] at hf2
      simp only [resF] at hf2 ⊢
      simp
      refine callK.mk ent_classes_Find hf2 ?_
      simp
      refine callK.mk ent_r19_SameAll hsa ?_
      simp
      refine callK.mk ent_classes_Check hc2 ?_
      simp
      refine callK.mk ent_l25_alive l25_alive_cs ?_
      simp
  · rw [if_neg hg] at hf1 hf2 ⊢
    have hsa := r19_SameAll_cs [] (by simp) (by simp)
    simp only [resF, List.map_nil] at hf2 hsa ⊢
    simp
    refine callK.mk ent_classes_Find hf2 ?_
    simp
    refine callK.mk ent_r19_SameAll hsa ?_
    simp
    refine callK.mk ent_classes_Check hc2 ?_
    simp
    refine callK.mk ent_l25_alive l25_alive_cs ?_
    simp
theorem classesOrder_all (xs : List D) (h : FitsAll Tryd.prog [29, 9, 43] xs) (hsz : szL xs ≤ 1048576) : CS Tryd.prog G0 5 xs (.d (.bool true)) none := by
  match xs, h with
  | [a, b, c], ⟨h1, h2, h3, _⟩ =>
    obtain ⟨m, rfl⟩ := fitV_mo h1
    obtain ⟨nm, rfl, _⟩ := fitsV_str tu9 h2
    obtain ⟨t, rfl⟩ := fitV_ty h3
    simp only [szL, szD] at hsz
    have he : tyC t = tyD t := tyC_eq t
    rw [show D.agg (tyC t) = D.agg (tyD t) by rw [he]]
    exact l25_ClassesOrder_cs m nm t (Nat.le_trans (Nat.le_add_right _ _) hsz) (Nat.le_trans (Nat.le_trans (Nat.le_add_right _ _) (Nat.le_trans (Nat.le_add_left _ _) (Nat.le_add_left _ _))) hsz)
end Go.Proofs.YtbacejmdgfalpaaDoor
