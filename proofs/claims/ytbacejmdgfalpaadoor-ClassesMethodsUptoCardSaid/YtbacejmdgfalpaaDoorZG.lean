/- Joined texts. Types in place of type variables: the walks, and the statement TypesSubsts. Types in place of type variables: the walks of Subst. The walks of Subst, and the statement TypesSubsts. No condition. -/
import Derived.Test.YtbacejmdgfalpaaDoorZD
section
set_option linter.unusedVariables false
set_option linter.unusedSimpArgs false
set_option linter.unusedSectionVars false
namespace Go.Proofs.YtbacejmdgfalpaaDoor
open Go Go.VM
set_option maxRecDepth 100000
set_option maxHeartbeats 8000000
variable {G : GT}
/-- A type with a further refinement. -/
def joinT (t : Ty) (p : Pr) : Ty := if zpB p || decide (t.op = 6) then t else if zpB t.pred then ⟨t.op, t.name, t.args, t.names, p, t.preds⟩ else ⟨t.op, t.name, t.args, t.names, ⟨15, [], 0, [t.pred, p]⟩, t.preds⟩
/-- The type for a variable. -/
def pickT (ns : List Nm) (by_ : List Ty) (op : Int) (nm : Nm) : Option Ty := if op = 5 ∧ 0 ≤ findI nm ns 0 then by_[(findI nm ns 0).toNat]? else none
mutual
def subT (ns : List Nm) (by_ : List Ty) : Ty → Ty
  | ⟨op, nm, l, ms, p, ps⟩ => match pickT ns by_ op nm with
    | some u => joinT u p
    | none => ⟨op, nm, subTs ns by_ l, ms, p, ps⟩
def subTs (ns : List Nm) (by_ : List Ty) : List Ty → List Ty
  | [] => []
  | t :: r => subT ns by_ t :: subTs ns by_ r
end
theorem subTs_eq (ns : List Nm) (by_ : List Ty) : ∀ l, subTs ns by_ l = l.map (subT ns by_)
  | [] => by simp [subTs]
  | t :: r => by simp [subTs, subTs_eq ns by_ r]
theorem subT_eq (ns : List Nm) (by_ : List Ty) (t : Ty) : subT ns by_ t = match pickT ns by_ t.op t.name with
    | some u => joinT u t.pred
    | none => ⟨t.op, t.name, t.args.map (subT ns by_), t.names, t.pred, t.preds⟩ := by
  cases t
  rw [subT, subTs_eq]
theorem pickT_nil (op : Int) (nm : Nm) : pickT [] [] op nm = none := by
  unfold pickT
  split <;> rfl
mutual
theorem subT_nil : ∀ t : Ty, subT [] [] t = t
  | ⟨op, nm, l, ms, p, ps⟩ => by
    have := subTs_nil l
    rw [subT, pickT_nil]
    simp only [this]
theorem subTs_nil : ∀ l : List Ty, subTs [] [] l = l
  | [] => by simp [subTs]
  | t :: r => by
    have h1 := subT_nil t
    have h2 := subTs_nil r
    simp only [subTs, h1, h2]
end
theorem find_range (s : Nm) (l : List Nm) : findI s l 0 < 0 ∨ (0 ≤ findI s l 0 ∧ findI s l 0 < l.length) := by
  suffices h : ∀ (l : List Nm) (i : Nat), findI s l i < 0 ∨ ((i : Int) ≤ findI s l i ∧ findI s l i < i + l.length) by
    have := h l 0
    simpa using this
  intro l
  induction l with
  | nil => intro i; left; simp [findI]
  | cons k r ih =>
    intro i
    unfold findI
    split
    · right; simp; omega
    · rcases ih (i + 1) with h | ⟨h1, h2⟩
      · left; exact h
      · right; simp at h1 h2 ⊢; omega
theorem ent_sIdx : VM.Enters Tryd.prog 38 := VM.Enters.mk Tryd.func38 rfl
theorem sIdx_cs (l : List Nm) (s : Nm) (hl : l.length ≤ 900000000) : CS Tryd.prog G 38 [.sl (strs l), .str s] (.d (.int .i64 (findI s l 0))) none := by
  refine CS.of_VK Tryd.func38 rfl Tryd.ntmps38 rfl ?_
  simp [strs_len]
  refine SW.loopF (ι := { i : Nat // i ≤ l.length ∧ findI s l 0 = findI s (l.drop i) i }) (fun i => [(8, .d (.int .i64 i.1))]) (fun _ => []) (fun _ => []) (fun i => l.length - i.1) ⟨0, by simp⟩ (by simp) ?_
  rintro ⟨i, hi, he⟩
  try simp only at hi he
  by_cases hlt : i < l.length
  · have hg := strs_get hlt
    have hw := wrap64s (show i < 9223372036854775807 by omega)
    rw [findI_step hlt] at he
    by_cases hs : l[i] = s
    · rw [if_pos hs] at he
      simp [hlt, hg, hs, he]
    · rw [if_neg hs] at he
      have hs' : ¬ s = l[i] := fun e => hs e.symm
      simp [hlt, hg, hs']
      exact Again.mk ⟨i + 1, hlt, he⟩ (by simp [hw]) (by simp; omega)
  · have : i = l.length := by omega
    subst this
    simp [findI] at he
    simp [he]
theorem ent_n_Find : VM.Enters Tryd.prog 45 := VM.Enters.mk Tryd.func45 rfl
theorem n_Find_cs (l : List Nm) (s : Nm) (hl : l.length ≤ 900000000) : CS Tryd.prog G 45 [.sl (strs l), .str s] (.d (.int .i64 (findI s l 0))) none := by
  refine CS.of_VK Tryd.func45 rfl Tryd.ntmps45 rfl ?_
  simp
  refine callK.mk ent_sIdx (sIdx_cs l s hl) ?_
  simp
theorem joinT_plain {t : Ty} {p : Pr} (h : zpB p = true ∨ t.op = 6) : joinT t p = t := by
  unfold joinT
  rcases h with h | h <;> simp [h]
end Go.Proofs.YtbacejmdgfalpaaDoor
end

section
set_option linter.unusedVariables false
set_option linter.unusedSimpArgs false
set_option linter.unusedSectionVars false
namespace Go.Proofs.YtbacejmdgfalpaaDoor
open Go Go.VM
set_option maxRecDepth 100000
set_option maxHeartbeats 8000000
variable {G : GT}
theorem map_stepC {α : Type} (f : α → List D) {l : List α} {i : Nat} (h : i < l.length) : List.take (i + 1) (List.map f l) = List.take i (List.map f l) ++ [f l[i]] := by
  have := map_step f h
  rw [List.map_take, List.map_take] at this
  exact this
theorem len_mem {α : Type} {f : α → List D} {k : Nat} (hf : ∀ a, (f a).length = k) {l : List α} {i : Nat} : ∀ (x : List D), x ∈ List.take i (List.map f l) → x.length = k := fun x hx => by
  obtain ⟨t, _, rfl⟩ := List.mem_map.1 (List.mem_of_mem_take hx)
  exact hf t
mutual
/-- No list in a type is too long. -/
def LnT (m : Nat) : Ty → Prop
  | ⟨_, _, l, ns, p, ps⟩ => l.length ≤ m ∧ ns.length ≤ m ∧ nodP p ≤ m ∧ nodPs ps ≤ m ∧ LnTs m l
def LnTs (m : Nat) : List Ty → Prop
  | [] => True
  | t :: r => LnT m t ∧ LnTs m r
end
theorem LnTs_get {m : Nat} : ∀ {l : List Ty} {i : Nat} (_ : LnTs m l) (hi : i < l.length), LnT m l[i]
  | t :: r, 0, h, _ => h.1
  | t :: r, i + 1, h, hi => LnTs_get (i := i) h.2 (by simpa using hi)
mutual
theorem LnT_all {m : Nat} : ∀ t : Ty, allT t ≤ m → LnT m t
  | ⟨op, nm, l, ns, p, ps⟩, h => by
    simp only [allT] at h
    have := len_le_allTs l
    exact ⟨by omega, by omega, by omega, by omega, LnTs_all l (by omega)⟩
theorem LnTs_all {m : Nat} : ∀ l : List Ty, allTs l ≤ m → LnTs m l
  | [], _ => trivial
  | t :: r, h => by
    simp only [allTs] at h
    exact ⟨LnT_all t (by omega), LnTs_all r (by omega)⟩
end
theorem LnT_pred {m : Nat} : ∀ {t : Ty}, LnT m t → nodP t.pred ≤ m
  | ⟨_, _, _, _, _, _⟩, h => h.2.2.1
theorem ent_types_Subst : VM.Enters Tryd.prog 32 := VM.Enters.mk Tryd.func32 rfl
theorem types_Subst_nil_ln : ∀ t : Ty, LnT 900000000 t → CS Tryd.prog G 32 [.agg (tyD t), .nils, .nils] (.d (.agg (tyD (subT [] [] t)))) none := by
  refine Ty.ind fun t ih => ?_
  obtain ⟨op, nm, l, ns, p, ps⟩ := t
  rintro ⟨hl, hns, hp, hps, hL⟩
  simp only at ih
  have hq := subT_eq [] [] ⟨op, nm, l, ns, p, ps⟩
  rw [pickT_nil] at hq
  simp only at hq
  have hlp := len_le_nodPs ps
  refine CS.of_VK Tryd.func32 rfl Tryd.ntmps32 rfl ?_
  by_cases h5 : op = 5
  · subst h5
    simp
    refine callK.mk ent_n_Find (CS.args (n_Find_cs [] nm (by simp)) (by simp)) ?_
    simp [findI]
    refine ⟨lexOk.mk (by kernel_rfl), ?_⟩
    repeat (refine stepK_len (by first | omega | (simp; omega)) ?_; simp)
    refine callK.mk ent_types_pred (types_pred_cs p (by omega)) ?_
    simp
    refine SW.loopF (ι := { i : Nat // i ≤ l.length }) (fun i => [(74, .d (.int .i64 i.1))]) (fun i => [(3, tyO 5 nm (.sl (l.map tyC)) (.sl (strs ns)) p (.sl (ps.map prC))), (6, tyZ), (9, tyO 5 nm (.sl ((l.take i.1).map (tyC ∘ subT [] []))) (.sl (strs ns)) p .nils)]) (fun _ => [(43, [.c 9 2])]) (fun i => l.length - i.1) ⟨0, by simp⟩ (by simp) ?_
    rintro ⟨i, hi⟩
    by_cases hlt : i < l.length
    · have hg := tys_get hlt
      have hw := wrap64s (show i < 9223372036854775807 by omega)
      have hb2 := LnTs_get hL hlt
      have h9 : ∀ (x : List D), x ∈ List.take i (List.map (tyC ∘ subT [] []) l) → x.length = 9 := len_mem (by simp)
      have hs2 := map_stepC (tyC ∘ subT [] []) hlt
      simp at hs2
      simp [hlt, hg]
      refine ⟨lexOk.mk (by kernel_rfl), ?_⟩
      refine callK.mk ent_types_Subst (ih l[i] (List.getElem_mem hlt) hb2) ?_
      simp
      refine stepK_len ⟨h9, by omega⟩ ?_
      simp
      exact Again.mk ⟨i + 1, hlt⟩ (by simp [hw, hs2]) (by simp; omega)
    · have : i = l.length := by omega
      subst this
      simp
      refine SW.loopF (ι := { i : Nat // i ≤ ps.length }) (fun i => [(91, .d (.int .i64 i.1))]) (fun i => [(3, tyO 5 nm (.sl (l.map tyC)) (.sl (strs ns)) p (.sl (ps.map prC))), (6, tyZ), (9, tyO 5 nm (.sl (l.map (tyC ∘ subT [] []))) (.sl (strs ns)) p (.sl ((ps.take i.1).map prC)))]) (fun _ => [(41, [.c 9 8])]) (fun i => ps.length - i.1) ⟨0, by simp⟩ (by simp) ?_
      rintro ⟨j, hj⟩
      by_cases hlt : j < ps.length
      · have hg := prs_get hlt
        have hw := wrap64s (show j < 9223372036854775807 by omega)
        have hb2 := nodPs_step hlt
        have hb3 := nodPs_take_le ps (j + 1)
        have h4 : ∀ (x : List D), x ∈ List.take j (List.map prC ps) → x.length = 4 := len_mem (by simp)
        have hs2 := map_stepC prC hlt
        rw [prC_eq] at hs2
        simp [hlt, hg]
        refine ⟨lexOk.mk (by kernel_rfl), ?_⟩
        refine callK.mk ent_types_pred (types_pred_cs ps[j] (by omega)) ?_
        simp
        refine stepK_len ⟨h4, by omega⟩ ?_
        simp
        exact Again.mk ⟨j + 1, hlt⟩ (by simp [hw, hs2]) (by simp; omega)
      · have : j = ps.length := by omega
        subst this
        simp [hq]
  · simp [h5]
    refine ⟨lexOk.mk (by kernel_rfl), ?_⟩
    repeat (refine stepK_len (by first | omega | (simp; omega)) ?_; simp)
    refine callK.mk ent_types_pred (types_pred_cs p (by omega)) ?_
    simp
    refine SW.loopF (ι := { i : Nat // i ≤ l.length }) (fun i => [(74, .d (.int .i64 i.1))]) (fun i => [(3, tyO op nm (.sl (l.map tyC)) (.sl (strs ns)) p (.sl (ps.map prC))), (6, tyZ), (9, tyO op nm (.sl ((l.take i.1).map (tyC ∘ subT [] []))) (.sl (strs ns)) p .nils)]) (fun _ => [(43, [.c 9 2])]) (fun i => l.length - i.1) ⟨0, by simp⟩ (by simp) ?_
    rintro ⟨i, hi⟩
    by_cases hlt : i < l.length
    · have hg := tys_get hlt
      have hw := wrap64s (show i < 9223372036854775807 by omega)
      have hb2 := LnTs_get hL hlt
      have h9 : ∀ (x : List D), x ∈ List.take i (List.map (tyC ∘ subT [] []) l) → x.length = 9 := len_mem (by simp)
      have hs2 := map_stepC (tyC ∘ subT [] []) hlt
      simp at hs2
      simp [hlt, hg]
      refine ⟨lexOk.mk (by kernel_rfl), ?_⟩
      refine callK.mk ent_types_Subst (ih l[i] (List.getElem_mem hlt) hb2) ?_
      simp
      refine stepK_len ⟨h9, by omega⟩ ?_
      simp
      exact Again.mk ⟨i + 1, hlt⟩ (by simp [hw, hs2]) (by simp; omega)
    · have : i = l.length := by omega
      subst this
      simp
      refine SW.loopF (ι := { i : Nat // i ≤ ps.length }) (fun i => [(91, .d (.int .i64 i.1))]) (fun i => [(3, tyO op nm (.sl (l.map tyC)) (.sl (strs ns)) p (.sl (ps.map prC))), (6, tyZ), (9, tyO op nm (.sl (l.map (tyC ∘ subT [] []))) (.sl (strs ns)) p (.sl ((ps.take i.1).map prC)))]) (fun _ => [(41, [.c 9 8])]) (fun i => ps.length - i.1) ⟨0, by simp⟩ (by simp) ?_
      rintro ⟨j, hj⟩
      by_cases hlt : j < ps.length
      · have hg := prs_get hlt
        have hw := wrap64s (show j < 9223372036854775807 by omega)
        have hb2 := nodPs_step hlt
        have hb3 := nodPs_take_le ps (j + 1)
        have h4 : ∀ (x : List D), x ∈ List.take j (List.map prC ps) → x.length = 4 := len_mem (by simp)
        have hs2 := map_stepC prC hlt
        rw [prC_eq] at hs2
        simp [hlt, hg]
        refine ⟨lexOk.mk (by kernel_rfl), ?_⟩
        refine callK.mk ent_types_pred (types_pred_cs ps[j] (by omega)) ?_
        simp
        refine stepK_len ⟨h4, by omega⟩ ?_
        simp
        exact Again.mk ⟨j + 1, hlt⟩ (by simp [hw, hs2]) (by simp; omega)
      · have : j = ps.length := by omega
        subst this
        simp [hq]
theorem types_Subst_nil (t : Ty) (h : allT t ≤ 900000000) : CS Tryd.prog G 32 [.agg (tyD t), .nils, .nils] (.d (.agg (tyD (subT [] [] t)))) none := types_Subst_nil_ln t (LnT_all t h)
end Go.Proofs.YtbacejmdgfalpaaDoor
end

section
set_option linter.unusedVariables false
set_option linter.unusedSimpArgs false
set_option linter.unusedSectionVars false
namespace Go.Proofs.YtbacejmdgfalpaaDoor
open Go Go.VM
set_option maxRecDepth 100000
set_option maxHeartbeats 8000000
variable {G : GT}
theorem pick_none {ns : List Nm} {bys : List Ty} {op : Int} {nm : Nm} (h : ¬ (op = 5 ∧ 0 ≤ findI nm ns 0 ∧ findI nm ns 0 < bys.length)) : pickT ns bys op nm = none := by
  unfold pickT
  split
  · rename_i h2
    rw [List.getElem?_eq_none_iff]
    have : ¬ findI nm ns 0 < bys.length := fun e => h ⟨h2.1, h2.2, e⟩
    omega
  · rfl
theorem pick_some {ns : List Nm} {bys : List Ty} {nm : Nm} {k : Nat} (hk : findI nm ns 0 = (k : Int)) (h : k < bys.length) : pickT ns bys 5 nm = some bys[k] := by
  unfold pickT
  rw [if_pos ⟨rfl, by omega⟩, hk]
  simp [h]
theorem types_Subst_ln (names : List Nm) (bys : List Ty) (hn1 : names.length ≤ 900000000) (hb1 : bys.length ≤ 900000000) (hb : ∀ u ∈ bys, LnT 900000000 u) : ∀ t : Ty, LnT 900000000 t → CS Tryd.prog G 32 [.agg (tyD t), .sl (strs names), .sl (bys.map tyC)] (.d (.agg (tyD (subT names bys t)))) none := by
  refine Ty.ind fun t ih => ?_
  obtain ⟨op, nm, l, ns, p, ps⟩ := t
  rintro ⟨hl, hns, hp, hps, hL⟩
  simp only at ih
  have hq := subT_eq names bys ⟨op, nm, l, ns, p, ps⟩
  simp only at hq
  have hlp := len_le_nodPs ps
  refine CS.of_VK Tryd.func32 rfl Tryd.ntmps32 rfl ?_
  by_cases h5 : op = 5
  · subst h5
    simp
    refine callK.mk ent_n_Find (n_Find_cs names nm hn1) ?_
    by_cases hf : 0 ≤ findI nm names 0
    · obtain ⟨k, hk⟩ : ∃ k : Nat, findI nm names 0 = (k : Int) := ⟨(findI nm names 0).toNat, by omega⟩
      by_cases hlt : k < bys.length
      · rw [pick_some hk hlt] at hq
        simp only at hq
        have hg := tys_get hlt
        have hu := hb bys[k] (List.getElem_mem hlt)
        have hsub := types_Subst_nil_ln (G := G) bys[k] hu
        rw [subT_nil] at hsub
        simp [hk, hlt, hg]
        refine callK.mk ent_types_Subst hsub ?_
        simp
        refine callK.mk ent_types_zero (types_zero_cs p) ?_
        cases hz : zpB p
        · by_cases h6 : bys[k].op = 6
          · simp [h6, hq, joinT_plain]
          · simp [h6]
            refine callK.mk ent_types_zero (types_zero_cs bys[k].pred) ?_
            cases hy : zpB bys[k].pred
            · simp
              refine ⟨lexOk.mk (by kernel_rfl), ?_⟩
              refine callK.mk ent_types_pred (types_pred_cs p (by omega)) ?_
              simp [hq, joinT, hz, hy, h6]
            · simp
              refine callK.mk ent_types_pred (types_pred_cs p (by omega)) ?_
              simp [hq, joinT, hz, hy, h6]
        · simp [hq, joinT, hz]
      · rw [pick_none (by omega)] at hq
        simp only at hq
        simp [hk, hlt]
        refine ⟨lexOk.mk (by kernel_rfl), ?_⟩
        repeat (refine stepK_len (by first | omega | (simp; omega)) ?_; simp)
        refine callK.mk ent_types_pred (types_pred_cs p (by omega)) ?_
        simp
        refine SW.loopF (ι := { i : Nat // i ≤ l.length }) (fun i => [(74, .d (.int .i64 i.1))]) (fun i => [(3, tyO 5 nm (.sl (l.map tyC)) (.sl (strs ns)) p (.sl (ps.map prC))), (6, tyZ), (9, tyO 5 nm (.sl ((l.take i.1).map (tyC ∘ subT names bys))) (.sl (strs ns)) p .nils)]) (fun _ => [(43, [.c 9 2])]) (fun i => l.length - i.1) ⟨0, by simp⟩ (by simp) ?_
        rintro ⟨i, hi⟩
        by_cases hlt : i < l.length
        · have hg := tys_get hlt
          have hw := wrap64s (show i < 9223372036854775807 by omega)
          have hb2 := LnTs_get hL hlt
          have h9 : ∀ (x : List D), x ∈ List.take i (List.map (tyC ∘ subT names bys) l) → x.length = 9 := len_mem (by simp)
          have hs2 := map_stepC (tyC ∘ subT names bys) hlt
          simp at hs2
          simp [hlt, hg]
          refine ⟨lexOk.mk (by kernel_rfl), ?_⟩
          refine callK.mk ent_types_Subst (ih l[i] (List.getElem_mem hlt) hb2) ?_
          simp
          refine stepK_len ⟨h9, by omega⟩ ?_
          simp
          exact Again.mk ⟨i + 1, hlt⟩ (by simp [hw, hs2]) (by simp; omega)
        · have : i = l.length := by omega
          subst this
          simp
          refine SW.loopF (ι := { i : Nat // i ≤ ps.length }) (fun i => [(91, .d (.int .i64 i.1))]) (fun i => [(3, tyO 5 nm (.sl (l.map tyC)) (.sl (strs ns)) p (.sl (ps.map prC))), (6, tyZ), (9, tyO 5 nm (.sl (l.map (tyC ∘ subT names bys))) (.sl (strs ns)) p (.sl ((ps.take i.1).map prC)))]) (fun _ => [(41, [.c 9 8])]) (fun i => ps.length - i.1) ⟨0, by simp⟩ (by simp) ?_
          rintro ⟨j, hj⟩
          by_cases hlt : j < ps.length
          · have hg := prs_get hlt
            have hw := wrap64s (show j < 9223372036854775807 by omega)
            have hb2 := nodPs_step hlt
            have hb3 := nodPs_take_le ps (j + 1)
            have h4 : ∀ (x : List D), x ∈ List.take j (List.map prC ps) → x.length = 4 := len_mem (by simp)
            have hs2 := map_stepC prC hlt
            rw [prC_eq] at hs2
            simp [hlt, hg]
            refine ⟨lexOk.mk (by kernel_rfl), ?_⟩
            refine callK.mk ent_types_pred (types_pred_cs ps[j] (by omega)) ?_
            simp
            refine stepK_len ⟨h4, by omega⟩ ?_
            simp
            exact Again.mk ⟨j + 1, hlt⟩ (by simp [hw, hs2]) (by simp; omega)
          · have : j = ps.length := by omega
            subst this
            simp [hq]
    · rw [pick_none (by omega)] at hq
      simp only at hq
      simp [hf]
      refine ⟨lexOk.mk (by kernel_rfl), ?_⟩
      repeat (refine stepK_len (by first | omega | (simp; omega)) ?_; simp)
      refine callK.mk ent_types_pred (types_pred_cs p (by omega)) ?_
      simp
      refine SW.loopF (ι := { i : Nat // i ≤ l.length }) (fun i => [(74, .d (.int .i64 i.1))]) (fun i => [(3, tyO 5 nm (.sl (l.map tyC)) (.sl (strs ns)) p (.sl (ps.map prC))), (6, tyZ), (9, tyO 5 nm (.sl ((l.take i.1).map (tyC ∘ subT names bys))) (.sl (strs ns)) p .nils)]) (fun _ => [(43, [.c 9 2])]) (fun i => l.length - i.1) ⟨0, by simp⟩ (by simp) ?_
      rintro ⟨i, hi⟩
      by_cases hlt : i < l.length
      · have hg := tys_get hlt
        have hw := wrap64s (show i < 9223372036854775807 by omega)
        have hb2 := LnTs_get hL hlt
        have h9 : ∀ (x : List D), x ∈ List.take i (List.map (tyC ∘ subT names bys) l) → x.length = 9 := len_mem (by simp)
        have hs2 := map_stepC (tyC ∘ subT names bys) hlt
        simp at hs2
        simp [hlt, hg]
        refine ⟨lexOk.mk (by kernel_rfl), ?_⟩
        refine callK.mk ent_types_Subst (ih l[i] (List.getElem_mem hlt) hb2) ?_
        simp
        refine stepK_len ⟨h9, by omega⟩ ?_
        simp
        exact Again.mk ⟨i + 1, hlt⟩ (by simp [hw, hs2]) (by simp; omega)
      · have : i = l.length := by omega
        subst this
        simp
        refine SW.loopF (ι := { i : Nat // i ≤ ps.length }) (fun i => [(91, .d (.int .i64 i.1))]) (fun i => [(3, tyO 5 nm (.sl (l.map tyC)) (.sl (strs ns)) p (.sl (ps.map prC))), (6, tyZ), (9, tyO 5 nm (.sl (l.map (tyC ∘ subT names bys))) (.sl (strs ns)) p (.sl ((ps.take i.1).map prC)))]) (fun _ => [(41, [.c 9 8])]) (fun i => ps.length - i.1) ⟨0, by simp⟩ (by simp) ?_
        rintro ⟨j, hj⟩
        by_cases hlt : j < ps.length
        · have hg := prs_get hlt
          have hw := wrap64s (show j < 9223372036854775807 by omega)
          have hb2 := nodPs_step hlt
          have hb3 := nodPs_take_le ps (j + 1)
          have h4 : ∀ (x : List D), x ∈ List.take j (List.map prC ps) → x.length = 4 := len_mem (by simp)
          have hs2 := map_stepC prC hlt
          rw [prC_eq] at hs2
          simp [hlt, hg]
          refine ⟨lexOk.mk (by kernel_rfl), ?_⟩
          refine callK.mk ent_types_pred (types_pred_cs ps[j] (by omega)) ?_
          simp
          refine stepK_len ⟨h4, by omega⟩ ?_
          simp
          exact Again.mk ⟨j + 1, hlt⟩ (by simp [hw, hs2]) (by simp; omega)
        · have : j = ps.length := by omega
          subst this
          simp [hq]
  · rw [pick_none (by omega)] at hq
    simp only at hq
    simp [h5]
    refine ⟨lexOk.mk (by kernel_rfl), ?_⟩
    repeat (refine stepK_len (by first | omega | (simp; omega)) ?_; simp)
    refine callK.mk ent_types_pred (types_pred_cs p (by omega)) ?_
    simp
    refine SW.loopF (ι := { i : Nat // i ≤ l.length }) (fun i => [(74, .d (.int .i64 i.1))]) (fun i => [(3, tyO op nm (.sl (l.map tyC)) (.sl (strs ns)) p (.sl (ps.map prC))), (6, tyZ), (9, tyO op nm (.sl ((l.take i.1).map (tyC ∘ subT names bys))) (.sl (strs ns)) p .nils)]) (fun _ => [(43, [.c 9 2])]) (fun i => l.length - i.1) ⟨0, by simp⟩ (by simp) ?_
    rintro ⟨i, hi⟩
    by_cases hlt : i < l.length
    · have hg := tys_get hlt
      have hw := wrap64s (show i < 9223372036854775807 by omega)
      have hb2 := LnTs_get hL hlt
      have h9 : ∀ (x : List D), x ∈ List.take i (List.map (tyC ∘ subT names bys) l) → x.length = 9 := len_mem (by simp)
      have hs2 := map_stepC (tyC ∘ subT names bys) hlt
      simp at hs2
      simp [hlt, hg]
      refine ⟨lexOk.mk (by kernel_rfl), ?_⟩
      refine callK.mk ent_types_Subst (ih l[i] (List.getElem_mem hlt) hb2) ?_
      simp
      refine stepK_len ⟨h9, by omega⟩ ?_
      simp
      exact Again.mk ⟨i + 1, hlt⟩ (by simp [hw, hs2]) (by simp; omega)
    · have : i = l.length := by omega
      subst this
      simp
      refine SW.loopF (ι := { i : Nat // i ≤ ps.length }) (fun i => [(91, .d (.int .i64 i.1))]) (fun i => [(3, tyO op nm (.sl (l.map tyC)) (.sl (strs ns)) p (.sl (ps.map prC))), (6, tyZ), (9, tyO op nm (.sl (l.map (tyC ∘ subT names bys))) (.sl (strs ns)) p (.sl ((ps.take i.1).map prC)))]) (fun _ => [(41, [.c 9 8])]) (fun i => ps.length - i.1) ⟨0, by simp⟩ (by simp) ?_
      rintro ⟨j, hj⟩
      by_cases hlt : j < ps.length
      · have hg := prs_get hlt
        have hw := wrap64s (show j < 9223372036854775807 by omega)
        have hb2 := nodPs_step hlt
        have hb3 := nodPs_take_le ps (j + 1)
        have h4 : ∀ (x : List D), x ∈ List.take j (List.map prC ps) → x.length = 4 := len_mem (by simp)
        have hs2 := map_stepC prC hlt
        rw [prC_eq] at hs2
        simp [hlt, hg]
        refine ⟨lexOk.mk (by kernel_rfl), ?_⟩
        refine callK.mk ent_types_pred (types_pred_cs ps[j] (by omega)) ?_
        simp
        refine stepK_len ⟨h4, by omega⟩ ?_
        simp
        exact Again.mk ⟨j + 1, hlt⟩ (by simp [hw, hs2]) (by simp; omega)
      · have : j = ps.length := by omega
        subst this
        simp [hq]
theorem types_Subst_cs (names : List Nm) (bys : List Ty) (hn1 : names.length ≤ 900000000) (hb1 : bys.length ≤ 900000000) (hb : ∀ u ∈ bys, allT u ≤ 900000000) (t : Ty) (h : allT t ≤ 900000000) : CS Tryd.prog G 32 [.agg (tyD t), .sl (strs names), .sl (bys.map tyC)] (.d (.agg (tyD (subT names bys t)))) none := types_Subst_ln names bys hn1 hb1 (fun u hu => LnT_all u (hb u hu)) t (LnT_all t h)
/-! ### Sizes -/
theorem joinT_all (t : Ty) (p : Pr) : allT (joinT t p) ≤ allT t + nodP p + 1 := by
  have h := allT_eq t
  unfold joinT
  split
  · omega
  · split
    · simp only [allT]
      omega
    · simp only [allT, nodP, nodPs]
      omega
mutual
theorem subT_all (ns : List Nm) (bys : List Ty) (m : Nat) (hb : ∀ u ∈ bys, allT u ≤ m) : ∀ t : Ty, allT (subT ns bys t) ≤ allT t + nodT t * (m + 1)
  | ⟨op, nm, l, ms, p, ps⟩ => by
    have h := subTs_all ns bys m hb l
    rw [subT]
    split
    · rename_i u hu
      have hm : u ∈ bys := by
        unfold pickT at hu
        split at hu
        · exact List.mem_of_getElem? hu
        · cases hu
      have h1 := hb u hm
      have h2 := joinT_all u p
      have h3 : 1 ≤ nodT ⟨op, nm, l, ms, p, ps⟩ := nodT_pos _
      have h4 : nodP p + 1 ≤ allT ⟨op, nm, l, ms, p, ps⟩ := by simp only [allT]; omega
      have h6 : m + 1 ≤ nodT ⟨op, nm, l, ms, p, ps⟩ * (m + 1) := Nat.le_mul_of_pos_left _ h3
      omega
    · simp only [allT, nodT, Nat.add_mul, Nat.one_mul]
      omega
theorem subTs_all (ns : List Nm) (bys : List Ty) (m : Nat) (hb : ∀ u ∈ bys, allT u ≤ m) : ∀ l : List Ty, allTs (subTs ns bys l) ≤ allTs l + nodTs l * (m + 1)
  | [] => by simp [subTs, allTs]
  | t :: r => by
    have h1 := subT_all ns bys m hb t
    have h2 := subTs_all ns bys m hb r
    simp only [subTs, allTs, nodTs, Nat.add_mul] at h1 h2 ⊢
    omega
end
theorem allTs_in {u : Ty} : ∀ {l : List Ty}, u ∈ l → allT u ≤ allTs l
  | t :: r, h => by
    simp only [allTs]
    rcases List.mem_cons.1 h with rfl | h
    · omega
    · have := allTs_in h
      omega
end Go.Proofs.YtbacejmdgfalpaaDoor
end
