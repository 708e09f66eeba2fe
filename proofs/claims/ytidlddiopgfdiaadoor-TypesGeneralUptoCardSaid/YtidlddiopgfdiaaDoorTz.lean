/- Types in place of type variables: the walks of Subst. No condition. -/
import Derived.Test.YtidlddiopgfdiaaDoorTx
set_option linter.unusedVariables false
set_option linter.unusedSimpArgs false
set_option linter.unusedSectionVars false
namespace Go.Proofs.YtidlddiopgfdiaaDoor
open Go Go.VM
set_option maxRecDepth 100000
set_option maxHeartbeats 8000000
variable {G : GT}
theorem map_stepC {α : Type} (f : α → List D) {l : List α} {i : Nat} (h : i < l.length) : List.take (i + 1) (List.map f l) = List.take i (List.map f l) ++ [f l[i]] := by
  have := map_step f h
  rw [List.map_take, List.map_take] at this
  exact this
theorem len_mem {α : Type} {f : α → List D} {k : Nat} (hf : ∀ a, (f a).length = k) {l : List α} {i : Nat} : ∀ (x : List D), x ∈ List.take i (List.map f l) → x.length = k := fun x hx => by
  obtain ⟨t, _, rfl⟩ := List.mem_map.1 (List.mem_of_mem_take hx)
  exact hf t
mutual
/-- No list in a type is too long. -/
def LnT (m : Nat) : Ty → Prop
  | ⟨_, _, l, ns, p, ps⟩ => l.length ≤ m ∧ ns.length ≤ m ∧ nodP p ≤ m ∧ nodPs ps ≤ m ∧ LnTs m l
def LnTs (m : Nat) : List Ty → Prop
  | [] => True
  | t :: r => LnT m t ∧ LnTs m r
end
theorem LnTs_get {m : Nat} : ∀ {l : List Ty} {i : Nat} (_ : LnTs m l) (hi : i < l.length), LnT m l[i]
  | t :: r, 0, h, _ => h.1
  | t :: r, i + 1, h, hi => LnTs_get (i := i) h.2 (by simpa using hi)
mutual
theorem LnT_all {m : Nat} : ∀ t : Ty, allT t ≤ m → LnT m t
  | ⟨op, nm, l, ns, p, ps⟩, h => by
    simp only [allT] at h
    have := len_le_allTs l
    exact ⟨by omega, by omega, by omega, by omega, LnTs_all l (by omega)⟩
theorem LnTs_all {m : Nat} : ∀ l : List Ty, allTs l ≤ m → LnTs m l
  | [], _ => trivial
  | t :: r, h => by
    simp only [allTs] at h
    exact ⟨LnT_all t (by omega), LnTs_all r (by omega)⟩
end
theorem LnT_pred {m : Nat} : ∀ {t : Ty}, LnT m t → nodP t.pred ≤ m
  | ⟨_, _, _, _, _, _⟩, h => h.2.2.1
theorem ent_types_Subst : VM.Enters Tryd.prog 16 := VM.Enters.mk Tryd.func16 rfl
theorem types_Subst_nil_ln : ∀ t : Ty, LnT 900000000 t → CS Tryd.prog G 16 [.agg (tyD t), .nils, .nils] (.d (.agg (tyD (subT [] [] t)))) none := by
  refine Ty.ind fun t ih => ?_
  obtain ⟨op, nm, l, ns, p, ps⟩ := t
  rintro ⟨hl, hns, hp, hps, hL⟩
  simp only at ih
  have hq := subT_eq [] [] ⟨op, nm, l, ns, p, ps⟩
  rw [pickT_nil] at hq
  simp only at hq
  have hlp := len_le_nodPs ps
  refine CS.of_VK Tryd.func16 rfl Tryd.ntmps16 rfl ?_
  by_cases h5 : op = 5
  · subst h5
    simp
    refine callK.mk ent_n_Find (CS.args (n_Find_cs [] nm (by simp)) (by simp)) ?_
    simp [findI]
    refine ⟨lexOk.mk (by kernel_rfl), ?_⟩
    repeat (refine stepK_len (by first | omega | (simp; omega)) ?_; simp)
    refine callK.mk ent_types_pred (types_pred_cs p (by omega)) ?_
    simp
    refine SW.loopF (ι := { i : Nat // i ≤ l.length }) (fun i => [(74, .d (.int .i64 i.1))]) (fun i => [(3, tyO 5 nm (.sl (l.map tyC)) (.sl (strs ns)) p (.sl (ps.map prC))), (6, tyZ), (9, tyO 5 nm (.sl ((l.take i.1).map (tyC ∘ subT [] []))) (.sl (strs ns)) p .nils)]) (fun _ => [(30, [.c 9 2])]) (fun i => l.length - i.1) ⟨0, by simp⟩ (by simp) ?_
    rintro ⟨i, hi⟩
    by_cases hlt : i < l.length
    · have hg := tys_get hlt
      have hw := wrap64s (show i < 9223372036854775807 by omega)
      have hb2 := LnTs_get hL hlt
      have h9 : ∀ (x : List D), x ∈ List.take i (List.map (tyC ∘ subT [] []) l) → x.length = 9 := len_mem (by simp)
      have hs2 := map_stepC (tyC ∘ subT [] []) hlt
      simp at hs2
      simp [hlt, hg]
      refine ⟨lexOk.mk (by kernel_rfl), ?_⟩
      refine callK.mk ent_types_Subst (ih l[i] (List.getElem_mem hlt) hb2) ?_
      simp
      refine stepK_len ⟨h9, by omega⟩ ?_
      simp
      exact Again.mk ⟨i + 1, hlt⟩ (by simp [hw, hs2]) (by simp; omega)
    · have : i = l.length := by omega
      subst this
      simp
      refine SW.loopF (ι := { i : Nat // i ≤ ps.length }) (fun i => [(91, .d (.int .i64 i.1))]) (fun i => [(3, tyO 5 nm (.sl (l.map tyC)) (.sl (strs ns)) p (.sl (ps.map prC))), (6, tyZ), (9, tyO 5 nm (.sl (l.map (tyC ∘ subT [] []))) (.sl (strs ns)) p (.sl ((ps.take i.1).map prC)))]) (fun _ => [(28, [.c 9 8])]) (fun i => ps.length - i.1) ⟨0, by simp⟩ (by simp) ?_
      rintro ⟨j, hj⟩
      by_cases hlt : j < ps.length
      · have hg := prs_get hlt
        have hw := wrap64s (show j < 9223372036854775807 by omega)
        have hb2 := nodPs_step hlt
        have hb3 := nodPs_take_le ps (j + 1)
        have h4 : ∀ (x : List D), x ∈ List.take j (List.map prC ps) → x.length = 4 := len_mem (by simp)
        have hs2 := map_stepC prC hlt
        rw [prC_eq] at hs2
        simp [hlt, hg]
        refine ⟨lexOk.mk (by kernel_rfl), ?_⟩
        refine callK.mk ent_types_pred (types_pred_cs ps[j] (by omega)) ?_
        simp
        refine stepK_len ⟨h4, by omega⟩ ?_
        simp
        exact Again.mk ⟨j + 1, hlt⟩ (by simp [hw, hs2]) (by simp; omega)
      · have : j = ps.length := by omega
        subst this
        simp [hq]
  · simp [h5]
    refine ⟨lexOk.mk (by kernel_rfl), ?_⟩
    repeat (refine stepK_len (by first | omega | (simp; omega)) ?_; simp)
    refine callK.mk ent_types_pred (types_pred_cs p (by omega)) ?_
    simp
    refine SW.loopF (ι := { i : Nat // i ≤ l.length }) (fun i => [(74, .d (.int .i64 i.1))]) (fun i => [(3, tyO op nm (.sl (l.map tyC)) (.sl (strs ns)) p (.sl (ps.map prC))), (6, tyZ), (9, tyO op nm (.sl ((l.take i.1).map (tyC ∘ subT [] []))) (.sl (strs ns)) p .nils)]) (fun _ => [(30, [.c 9 2])]) (fun i => l.length - i.1) ⟨0, by simp⟩ (by simp) ?_
    rintro ⟨i, hi⟩
    by_cases hlt : i < l.length
    · have hg := tys_get hlt
      have hw := wrap64s (show i < 9223372036854775807 by omega)
      have hb2 := LnTs_get hL hlt
      have h9 : ∀ (x : List D), x ∈ List.take i (List.map (tyC ∘ subT [] []) l) → x.length = 9 := len_mem (by simp)
      have hs2 := map_stepC (tyC ∘ subT [] []) hlt
      simp at hs2
      simp [hlt, hg]
      refine ⟨lexOk.mk (by kernel_rfl), ?_⟩
      refine callK.mk ent_types_Subst (ih l[i] (List.getElem_mem hlt) hb2) ?_
      simp
      refine stepK_len ⟨h9, by omega⟩ ?_
      simp
      exact Again.mk ⟨i + 1, hlt⟩ (by simp [hw, hs2]) (by simp; omega)
    · have : i = l.length := by omega
      subst this
      simp
      refine SW.loopF (ι := { i : Nat // i ≤ ps.length }) (fun i => [(91, .d (.int .i64 i.1))]) (fun i => [(3, tyO op nm (.sl (l.map tyC)) (.sl (strs ns)) p (.sl (ps.map prC))), (6, tyZ), (9, tyO op nm (.sl (l.map (tyC ∘ subT [] []))) (.sl (strs ns)) p (.sl ((ps.take i.1).map prC)))]) (fun _ => [(28, [.c 9 8])]) (fun i => ps.length - i.1) ⟨0, by simp⟩ (by simp) ?_
      rintro ⟨j, hj⟩
      by_cases hlt : j < ps.length
      · have hg := prs_get hlt
        have hw := wrap64s (show j < 9223372036854775807 by omega)
        have hb2 := nodPs_step hlt
        have hb3 := nodPs_take_le ps (j + 1)
        have h4 : ∀ (x : List D), x ∈ List.take j (List.map prC ps) → x.length = 4 := len_mem (by simp)
        have hs2 := map_stepC prC hlt
        rw [prC_eq] at hs2
        simp [hlt, hg]
        refine ⟨lexOk.mk (by kernel_rfl), ?_⟩
        refine callK.mk ent_types_pred (types_pred_cs ps[j] (by omega)) ?_
        simp
        refine stepK_len ⟨h4, by omega⟩ ?_
        simp
        exact Again.mk ⟨j + 1, hlt⟩ (by simp [hw, hs2]) (by simp; omega)
      · have : j = ps.length := by omega
        subst this
        simp [hq]
theorem types_Subst_nil (t : Ty) (h : allT t ≤ 900000000) : CS Tryd.prog G 16 [.agg (tyD t), .nils, .nils] (.d (.agg (tyD (subT [] [] t)))) none := types_Subst_nil_ln t (LnT_all t h)
end Go.Proofs.YtidlddiopgfdiaaDoor
