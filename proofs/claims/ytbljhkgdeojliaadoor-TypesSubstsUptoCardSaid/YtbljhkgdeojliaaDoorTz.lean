/- Types in place of type variables: the walks of Subst. No condition. -/
import Derived.Test.YtbljhkgdeojliaaDoorTx
set_option linter.unusedVariables false
set_option linter.unusedSimpArgs false
set_option linter.unusedSectionVars false
namespace Go.Proofs.YtbljhkgdeojliaaDoor
open Go Go.VM
set_option maxRecDepth 100000
set_option maxHeartbeats 8000000
variable {G : GT}
theorem map_stepC {α : Type} (f : α → List D) {l : List α} {i : Nat} (h : i < l.length) : List.take (i + 1) (List.map f l) = List.take i (List.map f l) ++ [f l[i]] := by
  have := map_step f h
  rw [List.map_take, List.map_take] at this
  exact this
theorem len_mem {α : Type} {f : α → List D} {k : Nat} (hf : ∀ a, (f a).length = k) {l : List α} {i : Nat} : ∀ (x : List D), x ∈ List.take i (List.map f l) → x.length = k := fun x hx => by
  obtain ⟨t, _, rfl⟩ := List.mem_map.1 (List.mem_of_mem_take hx)
  exact hf t
theorem ent_types_Subst : VM.Enters Tryd.prog 50 := VM.Enters.mk Tryd.func50 rfl
theorem types_Subst_nil : ∀ t : Ty, allT t ≤ 900000000 → CS Tryd.prog G 50 [.agg (tyD t), .nils, .nils] (.d (.agg (tyD (subT [] [] t)))) none := by
  refine Ty.ind fun t ih => ?_
  obtain ⟨op, nm, l, ns, p, ps⟩ := t
  intro hN
  simp only at ih
  have hn := allT_eq ⟨op, nm, l, ns, p, ps⟩
  have hq := subT_eq [] [] ⟨op, nm, l, ns, p, ps⟩
  rw [pickT_nil] at hq
  simp only at hn hq
  have hl := len_le_allTs l
  have hlp := len_le_nodPs ps
  refine CS.of_VK Tryd.func50 rfl Tryd.ntmps50 rfl ?_
  by_cases h5 : op = 5
  · subst h5
    simp
    refine callK.mk ent_n_Find (CS.args (n_Find_cs [] nm (by simp)) (by simp)) ?_
    simp [findI]
    refine ⟨lexOk.mk (by kernel_rfl), ?_⟩
    repeat (refine stepK_len (by first | omega | (simp; omega)) ?_; simp)
    refine callK.mk ent_types_pred (types_pred_cs p (by omega)) ?_
    simp
    refine SW.loopF (ι := { i : Nat // i ≤ l.length }) (fun i => [(74, .d (.int .i64 i.1))]) (fun i => [(3, tyO 5 nm (.sl (l.map tyC)) (.sl (strs ns)) p (.sl (ps.map prC))), (6, tyZ), (9, tyO 5 nm (.sl ((l.take i.1).map (tyC ∘ subT [] []))) (.sl (strs ns)) p .nils)]) (fun _ => [(43, [.c 9 2])]) (fun i => l.length - i.1) ⟨0, by simp⟩ (by simp) ?_
    rintro ⟨i, hi⟩
    by_cases hlt : i < l.length
    · have hg := tys_get hlt
      have hw := wrap64s (show i < 9223372036854775807 by omega)
      have hb2 := allTs_mem hlt
      have h9 : ∀ (x : List D), x ∈ List.take i (List.map (tyC ∘ subT [] []) l) → x.length = 9 := len_mem (by simp)
      have hs2 := map_stepC (tyC ∘ subT [] []) hlt
      simp at hs2
      simp [hlt, hg]
      refine ⟨lexOk.mk (by kernel_rfl), ?_⟩
      refine callK.mk ent_types_Subst (ih l[i] (List.getElem_mem hlt) (by omega)) ?_
      simp
      refine stepK_len ⟨h9, by omega⟩ ?_
      simp
      exact Again.mk ⟨i + 1, hlt⟩ (by simp [hw, hs2]) (by simp; omega)
    · have : i = l.length := by omega
      subst this
      simp
      refine SW.loopF (ι := { i : Nat // i ≤ ps.length }) (fun i => [(91, .d (.int .i64 i.1))]) (fun i => [(3, tyO 5 nm (.sl (l.map tyC)) (.sl (strs ns)) p (.sl (ps.map prC))), (6, tyZ), (9, tyO 5 nm (.sl (l.map (tyC ∘ subT [] []))) (.sl (strs ns)) p (.sl ((ps.take i.1).map prC)))]) (fun _ => [(41, [.c 9 8])]) (fun i => ps.length - i.1) ⟨0, by simp⟩ (by simp) ?_
      rintro ⟨j, hj⟩
      by_cases hlt : j < ps.length
      · have hg := prs_get hlt
        have hw := wrap64s (show j < 9223372036854775807 by omega)
        have hb2 := nodPs_step hlt
        have hb3 := nodPs_take_le ps (j + 1)
        have h4 : ∀ (x : List D), x ∈ List.take j (List.map prC ps) → x.length = 4 := len_mem (by simp)
        have hs2 := map_stepC prC hlt
        rw [prC_eq] at hs2
        simp [hlt, hg]
        refine ⟨lexOk.mk (by kernel_rfl), ?_⟩
        refine callK.mk ent_types_pred (types_pred_cs ps[j] (by omega)) ?_
        simp
        refine stepK_len ⟨h4, by omega⟩ ?_
        simp
        exact Again.mk ⟨j + 1, hlt⟩ (by simp [hw, hs2]) (by simp; omega)
      · have : j = ps.length := by omega
        subst this
        simp [hq]
  · simp [h5]
    refine ⟨lexOk.mk (by kernel_rfl), ?_⟩
    repeat (refine stepK_len (by first | omega | (simp; omega)) ?_; simp)
    refine callK.mk ent_types_pred (types_pred_cs p (by omega)) ?_
    simp
    refine SW.loopF (ι := { i : Nat // i ≤ l.length }) (fun i => [(74, .d (.int .i64 i.1))]) (fun i => [(3, tyO op nm (.sl (l.map tyC)) (.sl (strs ns)) p (.sl (ps.map prC))), (6, tyZ), (9, tyO op nm (.sl ((l.take i.1).map (tyC ∘ subT [] []))) (.sl (strs ns)) p .nils)]) (fun _ => [(43, [.c 9 2])]) (fun i => l.length - i.1) ⟨0, by simp⟩ (by simp) ?_
    rintro ⟨i, hi⟩
    by_cases hlt : i < l.length
    · have hg := tys_get hlt
      have hw := wrap64s (show i < 9223372036854775807 by omega)
      have hb2 := allTs_mem hlt
      have h9 : ∀ (x : List D), x ∈ List.take i (List.map (tyC ∘ subT [] []) l) → x.length = 9 := len_mem (by simp)
      have hs2 := map_stepC (tyC ∘ subT [] []) hlt
      simp at hs2
      simp [hlt, hg]
      refine ⟨lexOk.mk (by kernel_rfl), ?_⟩
      refine callK.mk ent_types_Subst (ih l[i] (List.getElem_mem hlt) (by omega)) ?_
      simp
      refine stepK_len ⟨h9, by omega⟩ ?_
      simp
      exact Again.mk ⟨i + 1, hlt⟩ (by simp [hw, hs2]) (by simp; omega)
    · have : i = l.length := by omega
      subst this
      simp
      refine SW.loopF (ι := { i : Nat // i ≤ ps.length }) (fun i => [(91, .d (.int .i64 i.1))]) (fun i => [(3, tyO op nm (.sl (l.map tyC)) (.sl (strs ns)) p (.sl (ps.map prC))), (6, tyZ), (9, tyO op nm (.sl (l.map (tyC ∘ subT [] []))) (.sl (strs ns)) p (.sl ((ps.take i.1).map prC)))]) (fun _ => [(41, [.c 9 8])]) (fun i => ps.length - i.1) ⟨0, by simp⟩ (by simp) ?_
      rintro ⟨j, hj⟩
      by_cases hlt : j < ps.length
      · have hg := prs_get hlt
        have hw := wrap64s (show j < 9223372036854775807 by omega)
        have hb2 := nodPs_step hlt
        have hb3 := nodPs_take_le ps (j + 1)
        have h4 : ∀ (x : List D), x ∈ List.take j (List.map prC ps) → x.length = 4 := len_mem (by simp)
        have hs2 := map_stepC prC hlt
        rw [prC_eq] at hs2
        simp [hlt, hg]
        refine ⟨lexOk.mk (by kernel_rfl), ?_⟩
        refine callK.mk ent_types_pred (types_pred_cs ps[j] (by omega)) ?_
        simp
        refine stepK_len ⟨h4, by omega⟩ ?_
        simp
        exact Again.mk ⟨j + 1, hlt⟩ (by simp [hw, hs2]) (by simp; omega)
      · have : j = ps.length := by omega
        subst this
        simp [hq]
end Go.Proofs.YtbljhkgdeojliaaDoor
