/- Predicates: the walks of taking apart and filling, in the program and in the reference; levels. No condition. -/
import Derived.Test.YthikbenglkfioaaGreatDoorPb
set_option linter.unusedVariables false
set_option linter.unusedSimpArgs false
set_option linter.unusedSectionVars false
namespace Go.Proofs.YthikbenglkfioaaGreatDoor
open Go Go.VM
set_option maxRecDepth 100000
set_option maxHeartbeats 8000000
variable {G : GT}
/-! ### Taking apart -/
theorem void_not {p : Pr} (h : p.op = 15 ∧ p.kids.length = 2) : voidP p = false := by
  cases hv : voidP p with
  | false => rfl
  | true => have := void_kids hv; rw [this] at h; simp at h
theorem two_of {l : List Pr} (h : l.length = 2) : ∃ a b, l = [a, b] := by
  match l, h with
  | [a, b], _ => exact ⟨a, b, rfl⟩
theorem ent_pred_Split : VM.Enters Tryz.prog 103 := VM.Enters.mk Tryz.func103 rfl
theorem pred_Split_cs : ∀ p : Pr, nodP p ≤ 900000000 → CS Tryz.prog G 103 [.agg (prD p)] (.d (.sl ((splitP p).map prC))) (some 30) := by
  refine Pr.ind fun p ih => ?_
  obtain ⟨op, nm, n, l⟩ := p
  intro hN
  simp only at ih
  have hn := nodP_kids ⟨op, nm, n, l⟩
  simp only at hn
  refine CS.of_VK Tryz.func103 rfl Tryz.ntmps103 rfl ?_
  by_cases h : op = 15 ∧ l.length = 2
  · obtain ⟨h15, h2⟩ := h
    obtain ⟨a, b, rfl⟩ := two_of h2
    simp only [nodPs] at hn
    have hs := splitP_and nm n a b
    have s1 := split_len a
    have s2 := split_len b
    subst h15
    simp
    refine ⟨lexOk.mk (by kernel_rfl), ?_⟩
    refine callK.mk ent_pred_Split (ih a (by simp) (by omega)) ?_
    simp
    refine callK.mk ent_pred_Split (ih b (by simp) (by omega)) ?_
    simp
    refine stepK_len (by omega) ?_
    simp [hs]
  · have hs := splitP_other (p := ⟨op, nm, n, l⟩) h
    have hv := pred_void_cs (G := G) ⟨op, nm, n, l⟩ hN
    have tail : ∀ (x : Bool), voidP ⟨op, nm, n, l⟩ = x → True := fun _ _ => trivial
    by_cases h15 : op = 15
    · have h2 : ¬ l.length = 2 := fun e => h ⟨h15, e⟩
      simp [h15, h2]
      rw [h15] at hv hs
      refine callK.mk ent_pred_void hv ?_
      cases hz : voidP ⟨15, nm, n, l⟩
      · rw [hz] at hs
        simp
        refine callK.mk ent_pred_copied (pred_copied_cs ⟨15, nm, n, l⟩ (by rw [← h15]; exact hN)) ?_
        simp [hs]
      · rw [hz] at hs
        simp [hs]
    · simp [h15]
      refine callK.mk ent_pred_void hv ?_
      cases hz : voidP ⟨op, nm, n, l⟩
      · rw [hz] at hs
        simp
        refine callK.mk ent_pred_copied (pred_copied_cs ⟨op, nm, n, l⟩ hN) ?_
        simp [hs]
      · rw [hz] at hs
        simp [hs]
/-! ### Replacing, in the reference -/
/-! ### Levels -/
theorem ent_r7_Depth : VM.Enters Tryz.prog 132 := VM.Enters.mk Tryz.func132 rfl
theorem r7_Depth_cs (p : Pr) : nodP p ≤ 900000000 → CS Tryz.prog G 132 [.agg (prD p)] (.d (.int .i64 (depP p))) none := by
  revert p
  refine Pr.ind fun p ih => ?_
  obtain ⟨op, nm, n, l⟩ := p
  intro hN
  simp only at ih
  have hn := nodP_kids ⟨op, nm, n, l⟩
  have hd := depP_eq ⟨op, nm, n, l⟩
  simp only at hn hd
  have hl := len_le_nodPs l
  have hle := depPs_le l 0
  refine CS.of_VK Tryz.func132 rfl Tryz.ntmps132 rfl ?_
  simp
  refine SW.loopF (ι := { i : Nat // i ≤ l.length }) (fun i => [(3, .d (.int .i64 (depPs (l.take i.1) 0))), (9, .d (.int .i64 i.1))]) (fun _ => [(1, prO op nm n (.sl (l.map prC)))]) (fun _ => []) (fun i => l.length - i.1) ⟨0, by simp⟩ (by simp [depPs]) ?_
  rintro ⟨i, hi⟩
  by_cases hlt : i < l.length
  · have hg := prs_get hlt
    have hw := wrap64s (show i < 9223372036854775807 by omega)
    have hs := depPs_step hlt 0
    have hb2 := nodPs_step hlt
    have hb3 := nodPs_take_le l (i + 1)
    simp [hlt, hg]
    refine callK.mk ent_r7_Depth (ih l[i] (List.getElem_mem hlt) (by omega)) ?_
    simp
    exact Again.mk ⟨i + 1, hlt⟩ (by simp [hw, hs]; split <;> omega) (by simp; omega)
  · have : i = l.length := by omega
    subst this
    have hw : IntKind.i64.wrap ((depPs l 0 : Int) + 1) = ((depPs l 0 + 1 : Nat) : Int) := wrap64s (by omega)
    simp [hw, hd]
end Go.Proofs.YthikbenglkfioaaGreatDoor
